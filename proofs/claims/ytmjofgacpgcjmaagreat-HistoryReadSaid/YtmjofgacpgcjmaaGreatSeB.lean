import Derived.Test.YtmjofgacpgcjmaaGreatSeC
import Derived.Test.YtmjofgacpgcjmaaGreatEvB
import Derived.Deep.Slices
import Derived.Deep.Fields
import Derived.ChangeSame
import Derived.SizedLaws
section
namespace Go.Ev
open Go.RowKit
/-! Hoare's way over open terms: states of few slots and few objects; loops; calls. -/
section defs
noncomputable section
def idxK : List Nat → Nat → Nat
  | [], _ => 0
  | j :: l, b => bif Nat.beq j b then 0 else Nat.succ (idxK l b)
def isUndefV : Value → Bool
  | .tuple a => a.isEmpty
  | _ => false
mutual
/-- A value, the objects numbered anew (those that are not kept: by the last number). -/
def renSV (K : List Nat) : SV → Option SV
  | .bool l b => some (.bool l b)
  | .int k l n => some (.int k l n)
  | .str l s => some (.str l s)
  | .strL bs => some (.strL bs)
  | .ptr b off => some (.ptr (idxK K b) off)
  | .sl b off n s => some (.sl (idxK K b) off n s)
  | .map r => some (.map (idxK K r))
  | .func f a c => match renSVs K a, renSVs K c with
    | some a', some c' => some (.func f a' c')
    | _, _ => none
  | .iface t v => match renSV K v with
    | some v' => some (.iface t v')
    | none => none
  | .agg l => match renSVs K l with
    | some l' => some (.agg l')
    | none => none
  | .tuple l => match renSVs K l with
    | some l' => some (.tuple l')
    | none => none
  | .raw v => bif plainV v || isUndefV v then some (.raw v) else none
def renSVs (K : List Nat) : List SV → Option (List SV)
  | [] => some []
  | v :: l => match renSV K v, renSVs K l with
    | some v', some l' => some (v' :: l')
    | _, _ => none
end
def plainF : SF → Bool
  | .raw v => plain1 v
  | _ => true
def renO (K : List Nat) : SObj → Option SObj
  | .cells l rw => match renSVs K l with
    | some l' => some (.cells l' rw)
    | none => none
  | .arr n fs rw => bif fs.all plainF then some (.arr n fs rw) else none
  | .raw _ => none
def listT {α : Type} : Nat → List α → Tr α → Tr α
  | _, [], t => t
  | i, c :: l, t => listT (Nat.succ i) l (Tr.put deep t i (.leaf c))
/-- The heap of these objects; the next number is dead. -/
def mkH (O : List SObj) : SH := ⟨listT 0 (O ++ [.raw .dead]) .nil, O.length + 1, []⟩
def lookL : List (Nat × SV) → Nat → Option SV
  | [], _ => none
  | (t, v) :: l, u => bif Nat.beq t u then some v else lookL l u
def slotOf (L : List (Nat × SV)) (j : Nat → Value) (t : Nat) : SV :=
  match lookL L t with
  | some v => v
  | none => .raw (j t)
/-- The frame of n slots of which these are known. -/
def mkA (n : Nat) (L : List (Nat × SV)) (j : Nat → Value) : SAct := SAct.start n ((List.range n).map (slotOf L j))
def getSlots (K : List Nat) (a : SAct) : List Nat → Option (List SV)
  | [] => some []
  | t :: l => match renSV K (a.slot t), getSlots K a l with
    | some v, some r => some (v :: r)
    | _, _ => none
def getObjs (K : List Nat) (h : SH) : List Nat → Option (List SObj)
  | [] => some []
  | i :: l => match h.get i with
    | some o => match renO K o, getObjs K h l with
      | some o', some r => some (o' :: r)
      | _, _ => none
    | none => none
/-- What is kept of a state. -/
structure View where
  e : SExit
  vs : List SV
  os : List SObj
structure VSp where
  s : List Nat
  k : List Nat
/-- What is kept where the code goes on, returns, leaves. -/
def vsel (a r x : VSp) (e : SExit) : VSp :=
  match e with
  | .normal => a
  | .ret => r
  | _ => x
def viewS (n : Nat) (V : SExit → VSp) (r : SExit × SAct × SH) : Option View :=
  bif Nat.beq r.2.1.n n && r.2.1.defers.isEmpty then
    match getSlots (V r.1).k r.2.1 (V r.1).s, getObjs (V r.1).k r.2.2 (V r.1).k with
    | some vs, some os => some ⟨r.1, vs, os⟩
    | _, _ => none
  else none
def VOK (V : SExit → VSp) : Prop := ∀ e, (V e).k.Nodup ∧ (V e).k.length < most
def Tree.mapO {α β : Type} (g : α → Option β) : Tree α → Tree β
  | .leaf a => match g a with
    | some b => .leaf b
    | none => .fail
  | .node c x y => .node c (x.mapO g) (y.mapO g)
  | .fail => .fail
end
end defs

theorem Tree.pick_mapO {α β : Type} (g : α → Option β) : ∀ (t : Tree α) (b : β), (t.mapO g).pick = some b → ∃ a, t.pick = some a ∧ g a = some b
  | .leaf a, b, h => by
    simp only [Tree.mapO] at h
    cases hg : g a with
    | none => rw [hg] at h; cases h
    | some x =>
      rw [hg] at h
      simp only [Tree.pick, Option.some.injEq] at h
      subst h
      exact ⟨a, rfl, hg⟩
  | .node c x y, b, h => by
    simp only [Tree.mapO, Tree.pick] at h ⊢
    cases c with
    | true => exact pick_mapO g x b h
    | false => exact pick_mapO g y b h
  | .fail, b, h => by cases h

/-! Numbering anew. -/
def renEmb (K : List Nat) (ρ : Emb) : Emb := fun i =>
  match K[i]? with
  | some j => ρ j
  | none => if i = K.length then .dead else .free
theorem idxK_spec : ∀ (K : List Nat) (b : Nat), K[idxK K b]? = some b ∨ idxK K b = K.length
  | [], b => .inr rfl
  | j :: l, b => by
    unfold idxK
    cases hb : Nat.beq j b with
    | true => exact .inl (by simp [Nat.eq_of_beq_eq_true hb])
    | false =>
      rcases idxK_spec l b with h | h
      · exact .inl (by simpa using h)
      · exact .inr (by simp [h])
theorem renEmb_idx (K : List Nat) (ρ : Emb) (b : Nat) : renEmb K ρ (idxK K b) = ρ b ∨ renEmb K ρ (idxK K b) = .dead := by
  unfold renEmb
  rcases idxK_spec K b with h | h
  · exact .inl (by rw [h])
  · refine .inr ?_
    rw [h, List.getElem?_eq_none (Nat.le_refl _)]
    simp
theorem renEmb_dead (K : List Nat) (ρ : Emb) : renEmb K ρ K.length = .dead := by
  unfold renEmb
  rw [List.getElem?_eq_none (Nat.le_refl _)]
  simp

mutual
theorem junk_ex {ρ : Emb} (K : List Nat) : ∀ {v v' : Value}, VRel ρ v v' → ∃ u, VRel (renEmb K ρ) u v'
  | _, _, .bool b => ⟨_, .bool b⟩
  | _, _, .int k n => ⟨_, .int k n⟩
  | _, _, .string s => ⟨_, .string s⟩
  | _, _, .ptrNil => ⟨_, .ptrNil⟩
  | _, _, .ptr _ a' _ => ⟨.pointer (some ⟨K.length, 0, none⟩), .ptr _ a' ⟨by rw [renEmb_dead]; simp, rfl, fun g hg => by rw [renEmb_dead] at hg; cases hg⟩⟩
  | _, _, .slNil => ⟨_, .slNil⟩
  | _, _, .sl _ a' len c cap' h => ⟨.slice (some ⟨K.length, 0, none⟩) len c, .sl _ a' len c cap' ⟨by rw [renEmb_dead]; simp, rfl, h.2.2.1, fun g hg => by rw [renEmb_dead] at hg; cases hg⟩⟩
  | _, _, .mapNil => ⟨_, .mapNil⟩
  | _, _, .map _ r' _ => ⟨.map (some K.length), .map _ r' ⟨by rw [renEmb_dead]; simp, fun g hg => by rw [renEmb_dead] at hg; cases hg⟩⟩
  | _, _, .func fn _ _ a' b' h1 h2 => by
    obtain ⟨u1, r1⟩ := junks_ex K h1
    obtain ⟨u2, r2⟩ := junks_ex K h2
    exact ⟨.func fn u1.toArray u2.toArray, .func fn _ _ a' b' r1 r2⟩
  | _, _, .nilFunc => ⟨_, .nilFunc⟩
  | _, _, .nilIface => ⟨_, .nilIface⟩
  | _, _, .iface t _ v' h => by
    obtain ⟨u, r⟩ := junk_ex K h
    exact ⟨.iface t u, .iface t u v' r⟩
  | _, _, .agg _ a' h => by
    obtain ⟨u, r⟩ := junks_ex K h
    exact ⟨.agg u.toArray, .agg _ a' r⟩
  | _, _, .tuple _ a' h => by
    obtain ⟨u, r⟩ := junks_ex K h
    exact ⟨.tuple u.toArray, .tuple _ a' r⟩
theorem junks_ex {ρ : Emb} (K : List Nat) : ∀ {l l' : List Value}, VsRel ρ l l' → ∃ u, VsRel (renEmb K ρ) u l'
  | _, _, .nil => ⟨[], .nil⟩
  | _, _, .cons _ v' _ l' h t => by
    obtain ⟨u, r⟩ := junk_ex K h
    obtain ⟨us, rs⟩ := junks_ex K t
    exact ⟨u :: us, .cons u v' us l' r rs⟩
end

theorem undefV_eq {v : Value} (h : isUndefV v = true) : v = undef := by
  cases v <;> simp only [isUndefV, Bool.false_eq_true] at h
  rename_i a
  have : a = #[] := by simpa using h
  subst this
  rfl
mutual
theorem renSV_rel {ρ : Emb} (K : List Nat) : ∀ (v u : SV) (v' : Value), renSV K v = some u → VRel ρ v.den v' → VRel (renEmb K ρ) u.den v'
  | .bool l b, u, v', h, r => by simp only [renSV, Option.some.injEq] at h; subst h; cases r; exact .bool b
  | .int k l n, u, v', h, r => by simp only [renSV, Option.some.injEq] at h; subst h; cases r; exact .int k n
  | .str l s, u, v', h, r => by simp only [renSV, Option.some.injEq] at h; subst h; cases r; exact .string s
  | .strL bs, u, v', h, r => by simp only [renSV, Option.some.injEq] at h; subst h; cases r; exact .string _
  | .ptr b off, u, v', h, r => by
    simp only [renSV, Option.some.injEq] at h
    subst h
    cases r with
    | ptr a a' hr =>
      refine .ptr _ a' ⟨?_, rfl, fun g hg => ?_⟩
      · rcases renEmb_idx K ρ b with e | e
        · show renEmb K ρ (idxK K b) ≠ _; rw [e]; exact hr.1
        · show renEmb K ρ (idxK K b) ≠ _; rw [e]; simp
      · have hg : renEmb K ρ (idxK K b) = .img g := hg
        rcases renEmb_idx K ρ b with e | e
        · exact hr.2.2 g (by rw [← hg, e])
        · rw [e] at hg; cases hg
  | .sl b off n s, u, v', h, r => by
    simp only [renSV, Option.some.injEq] at h
    subst h
    cases r with
    | sl a a' len c cap' hr =>
      refine .sl _ a' _ _ cap' ⟨?_, rfl, hr.2.2.1, fun g hg => ?_⟩
      · rcases renEmb_idx K ρ b with e | e
        · show renEmb K ρ (idxK K b) ≠ _; rw [e]; exact hr.1
        · show renEmb K ρ (idxK K b) ≠ _; rw [e]; simp
      · have hg : renEmb K ρ (idxK K b) = .img g := hg
        rcases renEmb_idx K ρ b with e | e
        · exact hr.2.2.2 g (by rw [← hg, e])
        · rw [e] at hg; cases hg
  | .map b, u, v', h, r => by
    simp only [renSV, Option.some.injEq] at h
    subst h
    cases r with
    | map r r' hr =>
      refine .map _ r' ⟨?_, fun g hg => ?_⟩
      · rcases renEmb_idx K ρ b with e | e
        · rw [e]; exact hr.1
        · rw [e]; simp
      · rcases renEmb_idx K ρ b with e | e
        · exact hr.2 g (by rw [← hg, e])
        · rw [e] at hg; cases hg
  | .func f a c, u, v', h, r => by
    simp only [renSV] at h
    cases ha : renSVs K a with
    | none => rw [ha] at h; cases h
    | some a' =>
      cases hc : renSVs K c with
      | none => rw [ha, hc] at h; cases h
      | some c' =>
        rw [ha, hc] at h
        simp only [Option.some.injEq] at h
        subst h
        cases r with
        | func fn x y x' y' h1 h2 => exact .func _ _ _ x' y' (renSVs_rel K a a' _ ha h1) (renSVs_rel K c c' _ hc h2)
  | .iface t v, u, v', h, r => by
    simp only [renSV] at h
    cases hv : renSV K v with
    | none => rw [hv] at h; cases h
    | some w =>
      rw [hv] at h
      simp only [Option.some.injEq] at h
      subst h
      cases r with
      | iface t x x' hr => exact .iface _ _ _ (renSV_rel K v w _ hv hr)
  | .agg l, u, v', h, r => by
    simp only [renSV] at h
    cases hl : renSVs K l with
    | none => rw [hl] at h; cases h
    | some l' =>
      rw [hl] at h
      simp only [Option.some.injEq] at h
      subst h
      cases r with
      | agg a a' hr => exact .agg _ a' (renSVs_rel K l l' _ hl hr)
  | .tuple l, u, v', h, r => by
    simp only [renSV] at h
    cases hl : renSVs K l with
    | none => rw [hl] at h; cases h
    | some l' =>
      rw [hl] at h
      simp only [Option.some.injEq] at h
      subst h
      cases r with
      | tuple a a' hr => exact .tuple _ a' (renSVs_rel K l l' _ hl hr)
  | .raw v, u, v', h, r => by
    simp only [renSV] at h
    cases hb : (plainV v || isUndefV v) with
    | false => rw [hb] at h; cases h
    | true =>
      rw [hb] at h
      simp only [cond_true, Option.some.injEq] at h
      subst h
      simp only [Bool.or_eq_true] at hb
      rcases hb with hb | hb
      · rw [plainV_eq hb r]; exact plainV_rel hb
      · rw [undefV_eq hb] at r ⊢
        cases r with
        | tuple a a' t =>
          obtain ⟨l⟩ := a'
          cases t
          exact .tuple _ _ .nil
theorem renSVs_rel {ρ : Emb} (K : List Nat) : ∀ (l u : List SV) (l' : List Value), renSVs K l = some u → VsRel ρ (dens l) l' → VsRel (renEmb K ρ) (dens u) l'
  | [], u, l', h, r => by simp only [renSVs, Option.some.injEq] at h; subst h; cases r; exact .nil
  | v :: l, u, l', h, r => by
    simp only [renSVs] at h
    cases hv : renSV K v with
    | none => rw [hv] at h; cases h
    | some v' =>
      cases hl : renSVs K l with
      | none => rw [hv, hl] at h; cases h
      | some r' =>
        rw [hv, hl] at h
        simp only [Option.some.injEq] at h
        subst h
        cases r with
        | cons x x' k k' hx hk => exact .cons _ _ _ _ (renSV_rel K v v' _ hv hx) (renSVs_rel K l r' _ hl hk)
end

theorem arr_plain {n : Nat} {fs : List SF} (h : fs.all plainF = true) : (arrCells n fs).all plain1 = true := by
  rw [List.all_eq_true] at h ⊢
  intro v hv
  unfold arrCells at hv
  simp only [List.mem_flatMap] at hv
  obtain ⟨i, _, hv⟩ := hv
  rw [dens_map] at hv
  simp only [rowAt, List.map_map, List.mem_map, Function.comp] at hv
  obtain ⟨f, hf, rfl⟩ := hv
  have := h f hf
  cases f <;> first
    | rfl
    | exact this
theorem renO_empty {K : List Nat} {o u : SObj} (h : renO K o = some u) (e : o.den = .cells [] false) : u.den = .cells [] false := by
  cases o with
  | raw o => cases h
  | cells l rw =>
    simp only [renO] at h
    simp only [SObj.den, AObj.cells.injEq] at e
    obtain ⟨e1, rfl⟩ := e
    have : l = [] := List.length_eq_zero_iff.1 (by rw [← dens_length, e1]; rfl)
    subst this
    simp only [renSVs, Option.some.injEq] at h
    subst h
    rfl
  | arr m fs rw =>
    simp only [renO] at h
    cases hp : fs.all plainF with
    | false => rw [hp] at h; cases h
    | true => rw [hp] at h; simp only [cond_true, Option.some.injEq] at h; subst h; exact e
theorem renO_rel {ρ : Emb} {w : World} {K : List Nat} {o u : SObj} {g : Img} (h : renO K o = some u) (r : ObjRel ρ w o.den g) : ObjRel (renEmb K ρ) w u.den g := by
  cases o with
  | raw o => cases h
  | cells l rw =>
    simp only [renO] at h
    cases hl : renSVs K l with
    | none => rw [hl] at h; cases h
    | some l' =>
      rw [hl] at h
      simp only [Option.some.injEq] at h
      subst h
      obtain ⟨h1, c', e, fz, h2, h3, h4, h5, h6⟩ := r
      have hd : VsRel ρ (dens l) ((c'.toList.drop g.base).take (dens l).length) := by
        refine VsRel.of_get (by simp only [List.length_take, List.length_drop, Array.length_toList]; omega) fun j v hj => ?_
        obtain ⟨v', e1, e2⟩ := h5 j v hj
        have hjl := (List.getElem?_eq_some_iff.1 hj).1
        exact ⟨v', by rw [List.getElem?_take_of_lt hjl, List.getElem?_drop, Array.getElem?_toList]; exact e1, e2⟩
      have hr := renSVs_rel K l l' _ hl hd
      have hlen : (dens l').length = (dens l).length := by
        have := hr.length
        simp only [List.length_take, List.length_drop, Array.length_toList] at this
        omega
      refine ⟨h1, c', e, fz, h2, h3, by rw [hlen]; exact h4, fun j v hj => ?_, h6⟩
      obtain ⟨v', e1, e2⟩ := hr.get j v hj
      have hjl := (List.getElem?_eq_some_iff.1 hj).1
      rw [List.getElem?_take_of_lt (by omega), List.getElem?_drop, Array.getElem?_toList] at e1
      exact ⟨v', e1, e2⟩
  | arr n fs rw =>
    simp only [renO] at h
    cases hp : fs.all plainF with
    | false => rw [hp] at h; cases h
    | true =>
      rw [hp] at h
      simp only [cond_true, Option.some.injEq] at h
      subst h
      obtain ⟨h1, c', e, fz, h2, h3, h4, h5, h6⟩ := r
      refine ⟨h1, c', e, fz, h2, h3, h4, fun j v hj => ?_, h6⟩
      obtain ⟨v', e1, e2⟩ := h5 j v hj
      have hpl := arr_plain (n := n.n) hp
      rw [List.all_eq_true] at hpl
      have hv := hpl v (List.mem_of_getElem? hj)
      rw [plain1_eq hv e2] at e1
      exact ⟨v, e1, plain1_rel hv⟩
theorem renO_live {K : List Nat} {o u : SObj} (h : renO K o = some u) : o.den ≠ .dead := by
  cases o <;> first
    | (cases h; done)
    | (simp only [SObj.den]; exact fun h => by cases h)

/-! The heap of a list of objects. -/
theorem listT_spec {α : Type} : ∀ (l : List α) (i : Nat) (t : Tr α), t.flat deep → i + l.length ≤ most → (listT i l t).flat deep ∧
    ∀ j, j < most → Tr.get (listT i l t) j = (if j < i then Tr.get t j else match l[j - i]? with
      | some c => some c
      | none => Tr.get t j)
  | [], i, t, hf, _ => ⟨hf, fun j _ => by simp [listT]⟩
  | c :: l, i, t, hf, hn => by
    simp only [List.length_cons] at hn
    obtain ⟨h1, h2⟩ := listT_spec l (i + 1) (Tr.put deep t i (.leaf c)) (Tr.flat_put _ deep t i hf) (by omega)
    refine ⟨h1, fun j hj => ?_⟩
    have h3 := h2 j hj
    show Tr.get (listT (i + 1) l _) j = _
    rw [h3]
    unfold most at hn hj
    by_cases hji : j < i
    · rw [if_pos (by omega), if_pos hji, Tr.get_put_ne _ deep t i j hf (by show i < 65536; omega) (by show j < 65536; omega) (by omega)]
    · rw [if_neg hji]
      by_cases hj2 : j = i
      · subst hj2
        rw [if_pos (by omega), Tr.get_put_same]
        simp
      · rw [if_neg (by omega)]
        have : j - i = (j - (i + 1)) + 1 := by omega
        rw [this, List.getElem?_cons_succ]
        cases l[j - (i + 1)]? with
        | some c => rfl
        | none => simp only; rw [Tr.get_put_ne _ deep t i j hf (by show i < 65536; omega) (by show j < 65536; omega) (by omega)]
theorem Tr.flat_map {α β : Type} (g : α → β) : ∀ (d : Nat) (t : Tr α), t.flat d → (t.map g).flat d
  | d, .nil, _ => by cases d <;> trivial
  | 0, .leaf _, _ => trivial
  | _ + 1, .leaf _, h => h.elim
  | 0, .node _ _, h => h.elim
  | d + 1, .node l r, h => ⟨flat_map g d l h.1, flat_map g d r h.2⟩
theorem mkH_get {O : List SObj} (hn : O.length < most) (i : Nat) : (mkH O).get i = (if i = O.length then some (.raw .dead) else O[i]?) := by
  unfold SH.get mkH
  simp only
  cases hb : Nat.blt i (O.length + 1) with
  | false =>
    have : O.length + 1 ≤ i := by
      rcases Nat.lt_or_ge i (O.length + 1) with h | h
      · rw [blt_true h] at hb; cases hb
      · exact h
    rw [if_neg (by omega), List.getElem?_eq_none (by omega)]
    rfl
  | true =>
    have hi := lt_of_blt hb
    simp only [sel_true]
    rw [(listT_spec (O ++ [SObj.raw .dead]) 0 .nil (Tr.flat_nil _) (by simp; omega)).2 i (by omega), if_neg (by omega)]
    simp only [Nat.sub_zero]
    by_cases h : i = O.length
    · subst h
      simp
    · rw [if_neg h, List.getElem?_append_left (by omega), List.getElem?_eq_getElem (by omega)]
theorem mkH_ok {O : List SObj} (hn : O.length < most) : (mkH O).den.ok := by
  obtain ⟨h1, h2⟩ := listT_spec (O ++ [.raw .dead]) 0 .nil (Tr.flat_nil _) (by simp; omega)
  refine ⟨Tr.flat_map _ _ _ h1, by show O.length + 1 ≤ most; omega, fun i h3 h4 => ?_⟩
  have h3 : O.length + 1 ≤ i := h3
  show Tr.get ((listT 0 (O ++ [.raw .dead]) .nil).map SObj.den) i = none
  rw [Tr.get_map, h2 i h4, if_neg (by omega), List.getElem?_eq_none (by simp; omega)]
  rfl

/-! States. -/
theorem Frame1.trans {a : Emb} {u : World} {b : Emb} {v : World} {c : Emb} {w : World} (h : Frame1 a u b v) (k : Frame1 b v c w) : Frame1 a u c w := by
  refine ⟨k.os.trans h.os, k.tape.trans h.tape, k.output.trans h.output, Nat.le_trans h.size k.size, ?_, ?_⟩
  · intro x hx hno
    rw [k.old x (Nat.lt_of_lt_of_le hx h.size) ?_, h.old x hx hno]
    intro i g hg hr e
    rcases h.img i g hg hr with hs | ⟨j, g0, h1, h2, h3⟩
    · omega
    · exact hno j g0 h1 h2 (h3.trans e)
  · intro i g hg hr
    rcases k.img i g hg hr with hs | ⟨j, g0, h1, h2, h3⟩
    · exact .inl (Nat.le_trans h.size hs)
    · rcases h.img j g0 h1 h2 with hs | ⟨j', g1, h4, h5, h6⟩
      · exact .inl (by omega)
      · exact .inr ⟨j', g1, h4, h5, h6.trans h3⟩
theorem Frame1.refl (ρ : Emb) (w : World) : Frame1 ρ w ρ w := (Step.refl ρ w).frame
theorem renEmb_img {K : List Nat} {ρ : Emb} {i : Nat} {g : Img} (h : renEmb K ρ i = .img g) : ∃ j, K[i]? = some j ∧ ρ j = .img g := by
  unfold renEmb at h
  cases hk : K[i]? with
  | none =>
    rw [hk] at h
    simp only at h
    split at h <;> cases h
  | some j => rw [hk] at h; exact ⟨j, rfl, h⟩
theorem Frame1.ren {a : Emb} {u : World} {b : Emb} {v : World} (h : Frame1 a u b v) (K : List Nat) : Frame1 a u (renEmb K b) v :=
  ⟨h.os, h.tape, h.output, h.size, h.old, fun i g hg hr => by
    obtain ⟨j, _, hj⟩ := renEmb_img hg
    exact h.img j g hj hr⟩

/-- The world, seen from a call that began at ρ0 in w0, is one of these slots and objects. -/
def StL (ρ0 : Emb) (w0 : World) (n : Nat) (L : List (Nat × SV)) (O : List SObj) (b : Act) (w : World) : Prop :=
  ∃ j ρ, ARel ρ (mkA n L j).den b ∧ WRel ρ (mkH O).den w ∧ Frame1 ρ0 w0 ρ w

theorem mkA_slot {n : Nat} (hn : n ≤ 512) (L : List (Nat × SV)) (j : Nat → Value) (t : Nat) : (mkA n L j).den.slot t = if t < n then (slotOf L j t).den else undef := by
  unfold mkA
  rw [start_den, BAct.slot_start hn (by rw [dens_length]; simp)]
  by_cases h : t < n
  · rw [if_pos h, dens_get, List.getElem?_map, List.getElem?_range h]
    rfl
  · rw [if_neg h, List.getElem?_eq_none (by rw [dens_length]; simp; omega)]
    rfl
theorem mkA_n {n : Nat} (L : List (Nat × SV)) (j : Nat → Value) : (mkA n L j).den.n = n := by
  unfold mkA
  rw [start_den, BAct.n_start]
theorem mkA_wf {n : Nat} (hn : n ≤ 512) (L : List (Nat × SV)) (j : Nat → Value) : (mkA n L j).den.wf := by
  unfold mkA
  rw [start_den]
  exact BAct.wf_start hn _
theorem mkA_defers {n : Nat} (L : List (Nat × SV)) (j : Nat → Value) : (mkA n L j).den.defers = [] := by
  unfold mkA
  rw [start_den, BAct.defers_start]

theorem getSlots_spec {K : List Nat} {a : SAct} : ∀ {l : List Nat} {vs : List SV}, getSlots K a l = some vs → ∀ t v, lookL (l.zip vs) t = some v → ∃ u, a.slot t = u ∧ renSV K u = some v
  | [], vs, h, t, v, hl => by simp [lookL] at hl
  | s :: l, vs, h, t, v, hl => by
    simp only [getSlots] at h
    cases h1 : renSV K (a.slot s) with
    | none => rw [h1] at h; cases h
    | some x =>
      cases h2 : getSlots K a l with
      | none => rw [h1, h2] at h; cases h
      | some r =>
        rw [h1, h2] at h
        simp only [Option.some.injEq] at h
        subst h
        simp only [List.zip_cons_cons, lookL] at hl
        cases hb : Nat.beq s t with
        | true =>
          rw [hb] at hl
          simp only [cond_true, Option.some.injEq] at hl
          obtain rfl := Nat.eq_of_beq_eq_true hb
          subst hl
          exact ⟨_, rfl, h1⟩
        | false =>
          rw [hb] at hl
          exact getSlots_spec h2 t v hl
theorem getObjs_spec {K : List Nat} {h : SH} : ∀ {l : List Nat} {os : List SObj}, getObjs K h l = some os → os.length = l.length ∧ ∀ (i j : Nat), l[i]? = some j → ∃ o u, h.get j = some o ∧ renO K o = some u ∧ os[i]? = some u
  | [], os, hh => by
    simp only [getObjs, Option.some.injEq] at hh
    subst hh
    exact ⟨rfl, fun i j hi => by simp at hi⟩
  | x :: l, os, hh => by
    simp only [getObjs] at hh
    cases h1 : h.get x with
    | none => rw [h1] at hh; cases hh
    | some o =>
      rw [h1] at hh
      simp only at hh
      cases h2 : renO K o with
      | none => rw [h2] at hh; cases hh
      | some u =>
        cases h3 : getObjs K h l with
        | none => rw [h2, h3] at hh; cases hh
        | some r =>
          rw [h2, h3] at hh
          simp only [Option.some.injEq] at hh
          subst hh
          obtain ⟨h4, h5⟩ := getObjs_spec h3
          refine ⟨by simp [h4], fun i j hi => ?_⟩
          cases i with
          | zero =>
            simp only [List.getElem?_cons_zero, Option.some.injEq] at hi
            subst hi
            exact ⟨o, u, h1, h2, rfl⟩
          | succ i => exact h5 i j (by simpa using hi)

section
variable {E : Env} {S : STab}
/-- Numbering anew, and forgetting. -/
theorem StL.of_run2 {ρ0 ρ : Emb} {w0 w : World} {n : Nat} {V : SExit → VSp} {r : SExit × SAct × SH} {x : View} {b : Act} (hn : n ≤ 512) (hv : viewS n V r = some x) (hV : VOK V)
    (ar : ARel ρ r.2.1.den b) (wr : WRel ρ r.2.2.den w) (fr : Frame1 ρ0 w0 ρ w) : ∃ j, ARel (renEmb (V x.e).k ρ) (mkA n ((V x.e).s.zip x.vs) j).den b ∧ WRel (renEmb (V x.e).k ρ) (mkH x.os).den w ∧ Frame1 ρ0 w0 (renEmb (V x.e).k ρ) w := by
  obtain ⟨e, a, h⟩ := r
  obtain ⟨hk, hkl⟩ := hV e
  have hxe : x.e = e := by
    simp only [viewS] at hv
    cases hc : (Nat.beq a.n n && a.defers.isEmpty) with
    | false => rw [hc] at hv; cases hv
    | true =>
      rw [hc] at hv
      simp only [cond_true] at hv
      cases h2 : getSlots (V e).k a (V e).s with
      | none => rw [h2] at hv; cases hv
      | some vs =>
        cases h3 : getObjs (V e).k h (V e).k with
        | none => rw [h2, h3] at hv; cases hv
        | some os =>
          rw [h2, h3] at hv
          simp only [Option.some.injEq] at hv
          rw [← hv]
  rw [hxe]
  clear hxe
  simp only [viewS] at hv
  generalize (V e).k = K at hv hk hkl
  generalize (V e).s = slots at hv ⊢
  cases hc : (Nat.beq a.n n && a.defers.isEmpty) with
  | false => rw [hc] at hv; cases hv
  | true =>
    rw [hc] at hv
    simp only [cond_true] at hv
    simp only [Bool.and_eq_true] at hc
    have han : a.n = n := Nat.eq_of_beq_eq_true hc.1
    have had : a.defers = [] := by simpa using hc.2
    cases h1 : getSlots K a slots with
    | none => rw [h1] at hv; cases hv
    | some vs =>
      cases h2 : getObjs K h K with
      | none => rw [h1, h2] at hv; cases hv
      | some os =>
        rw [h1, h2] at hv
        simp only [Option.some.injEq] at hv
        subst hv
        simp only at ar wr
        have hj : ∀ t, ∃ u, VRel (renEmb K ρ) u (b.tmps.getD t undef) := fun t => junk_ex K (ar.slot t)
        obtain ⟨hol, hos⟩ := getObjs_spec h2
        refine ⟨fun t => (hj t).choose, ⟨mkA_wf hn _ _, by rw [mkA_n, ar.size]; exact han, fun t => ?_, ?_⟩, ⟨mkH_ok (by rw [hol]; exact hkl), fun i => ?_, ?_⟩, fr.ren K⟩
        · rw [mkA_slot hn]
          by_cases ht : t < n
          · rw [if_pos ht]
            unfold slotOf
            cases hl : lookL (slots.zip vs) t with
            | none => exact (hj t).choose_spec
            | some v =>
              obtain ⟨u, e1, e2⟩ := getSlots_spec h1 t v hl
              have := ar.slot t
              rw [slot_den, e1] at this
              exact renSV_rel K u v _ e2 this
          · rw [if_neg ht]
            have : b.tmps.getD t undef = undef := by
              have hs := ar.size
              rw [show a.den.n = a.n from rfl, han] at hs
              simp only [Array.getD_eq_getD_getElem?]
              rw [Array.getElem?_eq_none (by omega)]
              rfl
            rw [this]
            exact undef_rel _
        · rw [mkA_defers]
          have := ar.defers
          rw [show a.den.defers = a.defers.map SDef.den from rfl, had] at this
          generalize b.defers = bd at this
          cases this
          exact .nil
        · rw [SH.den_get, mkH_get (by rw [hol]; exact hkl)]
          by_cases hi : i = os.length
          · rw [if_pos hi]
            show renEmb K ρ i = .dead
            rw [hi, hol]
            exact renEmb_dead K ρ
          · rw [if_neg hi]
            cases ho : os[i]? with
            | none =>
              show renEmb K ρ i = .free
              have hl : os.length ≤ i := by simpa using ho
              unfold renEmb
              rw [List.getElem?_eq_none (by omega), if_neg (by omega)]
            | some u =>
              have hil : i < K.length := by rw [← hol]; exact (List.getElem?_eq_some_iff.1 ho).1
              obtain ⟨o, u', e1, e2, e3⟩ := hos i K[i] (List.getElem?_eq_getElem hil)
              rw [ho] at e3
              simp only [Option.some.injEq] at e3
              subst e3
              have e4 : h.den.get K[i] = some o.den := by rw [SH.den_get, e1]; rfl
              rcases wr.at e4 (renO_live e2) with ⟨g, e5, e6⟩ | ⟨e5, e6⟩
              case inr =>
                rw [Option.map_some, renO_empty e2 e6]
                exact .inr ⟨by unfold renEmb; rw [List.getElem?_eq_getElem hil]; exact e5, rfl⟩
              have e7 : renEmb K ρ i = .img g := by
                unfold renEmb
                rw [List.getElem?_eq_getElem hil]
                exact e5
              have e8 := renO_rel e2 e6
              have : u.den ≠ .dead := by
                cases o with
                | raw o => cases e2
                | cells l rw =>
                  simp only [renO] at e2
                  cases hl : renSVs K l with
                  | none => rw [hl] at e2; cases e2
                  | some l' => rw [hl] at e2; simp only [Option.some.injEq] at e2; subst e2; simp only [SObj.den]; exact fun h => by cases h
                | arr m fs rw =>
                  simp only [renO] at e2
                  cases hp : fs.all plainF with
                  | false => rw [hp] at e2; cases e2
                  | true => rw [hp] at e2; simp only [cond_true, Option.some.injEq] at e2; subst e2; simp only [SObj.den]; exact fun h => by cases h
              simp only [Option.map_some]
              cases hu : u.den with
              | dead => exact absurd hu this
              | cells c rw => rw [hu] at e8; exact .inl ⟨g, e7, e8⟩
              | amap es => rw [hu] at e8; exact .inl ⟨g, e7, e8⟩
        · intro i j gi gj hij hi hj' hr
          obtain ⟨k, hk1, hk2⟩ := renEmb_img hi
          obtain ⟨l, hl1, hl2⟩ := renEmb_img hj'
          refine wr.inj k l gi gj (fun e => hij ?_) hk2 hl2 hr
          subst e
          have h3 := (List.getElem?_eq_some_iff.1 hk1)
          have h4 := (List.getElem?_eq_some_iff.1 hl1)
          obtain ⟨h3l, h3e⟩ := h3
          obtain ⟨h4l, h4e⟩ := h4
          exact (List.getElem_inj hk).1 (h3e.trans h4e.symm)

theorem StL.of_run {ρ0 ρ : Emb} {w0 w : World} {n : Nat} {V : SExit → VSp} {r : SExit × SAct × SH} {x : View} {b : Act} (hn : n ≤ 512) (hv : viewS n V r = some x) (hV : VOK V)
    (ar : ARel ρ r.2.1.den b) (wr : WRel ρ r.2.2.den w) (fr : Frame1 ρ0 w0 ρ w) : StL ρ0 w0 n ((V x.e).s.zip x.vs) x.os b w :=
  let ⟨j, h1, h2, h3⟩ := StL.of_run2 hn hv hV ar wr fr
  ⟨j, _, h1, h2, h3⟩

def notPanic : SExit → Bool
  | .panic _ => false
  | _ => true
theorem view_e {n : Nat} {V : SExit → VSp} {r : SExit × SAct × SH} {x : View} (hv : viewS n V r = some x) : x.e = r.1 := by
  obtain ⟨e, a, h⟩ := r
  simp only [viewS] at hv
  cases hc : (Nat.beq a.n n && a.defers.isEmpty) with
  | false => rw [hc] at hv; cases hv
  | true =>
    rw [hc] at hv
    simp only [cond_true] at hv
    cases h2 : getSlots (V e).k a (V e).s with
    | none => rw [h2] at hv; cases hv
    | some vs =>
      cases h3 : getObjs (V e).k h (V e).k with
      | none => rw [h2, h3] at hv; cases hv
      | some os =>
        rw [h2, h3] at hv
        simp only [Option.some.injEq] at hv
        rw [← hv]
/-- A piece of code, told by a tree of what is kept. -/
theorem StL.piece (Snd : Sound E) (ht : TabHom E S) (m : Nat) {ρ0 : Emb} {w0 w : World} {n : Nat} {L : List (Nat × SV)} {O : List SObj} {b : Act} {c : Code} {V : SExit → VSp} {T : Tree View} {Q : Exit → Act → World → Prop}
    (hn : n ≤ 512) (hV : VOK V) (hp : plansIn c = true)
    (hv : ∀ j, (evalS E S m c (mkA n L j) (mkH O)).mapO (viewS n V) = T)
    (st : StL ρ0 w0 n L O b w)
    (k : ∃ x, T.pick = some x ∧ notPanic x.e = true ∧ ∀ b1 w1, StL ρ0 w0 n ((V x.e).s.zip x.vs) x.os b1 w1 → Q x.e.den b1 w1) : c.wp E.P Q b w := by
  obtain ⟨x, hx, hnp, k⟩ := k
  obtain ⟨j, ρ, ar, wr, fr⟩ := st
  have hvj := hv j
  rw [← hvj] at hx
  obtain ⟨r, hr, hvr⟩ := Tree.pick_mapO _ _ _ hx
  have hxe := view_e hvr
  obtain ⟨e, a1, h1⟩ := r
  obtain ⟨he, _⟩ := evalS_sim ht m c _ _ e a1 h1 ar.wf hr
  have hxe : x.e = e := hxe
  refine (eval_sim Snd m).1 c _ _ e.den a1.den h1.den hp he (fun hpan => ?_) ρ b w _ ar wr fun ρ1 b1 w1 st1 ar1 wr1 => ?_
  · rw [hxe] at hnp
    cases e <;> first
      | exact hpan
      | cases hnp
  · rw [← hxe]
    exact k b1 w1 (StL.of_run hn hvr hV ar1 wr1 (fr.trans st1.frame))
end
end Go.Ev
end
section
namespace Go.Ev
open Go.RowKit
section defs
noncomputable section
/-- The first k statements of a row, and what stands behind them. -/
def preC : Nat → Code → Code
  | 0, _ => .skip
  | k + 1, c => match c with
    | .seq a r => match k with
      | 0 => a
      | _ + 1 => .seq a (preC k r)
    | c => c
def postC : Nat → Code → Code
  | 0, c => c
  | k + 1, c => match c with
    | .seq _ r => postC k r
    | c => c
def seqsOK : Nat → Code → Bool
  | 0, _ => true
  | k + 1, c => match c with
    | .seq _ r => seqsOK k r
    | _ => false
def isSeq : Code → Bool
  | .seq _ _ => true
  | _ => false
def seqL : Code → Code
  | .seq a _ => a
  | c => c
def seqR : Code → Code
  | .seq _ r => r
  | c => c
def isBlock : Code → Bool
  | .block _ _ => true
  | _ => false
def blockId : Code → Nat
  | .block i _ => i
  | _ => 0
def blockB : Code → Code
  | .block _ c => c
  | c => c
def isLoop : Code → Bool
  | .loop _ => true
  | _ => false
def loopB : Code → Code
  | .loop c => c
  | c => c
end
end defs

section
variable {P : Program} {Q : Exit → Act → World → Prop} {b : Act} {w : World}
theorem wp_seqP {c : Code} (h : isSeq c = true) (k : (seqL c).wp P (Exit.then ((seqR c).wp P Q) Q) b w) : c.wp P Q b w := by
  cases c <;> first
    | exact wp_seq k
    | cases h
theorem wp_blockP {c : Code} (h : isBlock c = true) (k : (blockB c).wp P (Exit.inBlock (blockId c) Q) b w) : c.wp P Q b w := by
  cases c <;> first
    | exact wp_block k
    | cases h
/-- A loop: each round lowers a number. -/
theorem wp_loopP {c : Code} (h : isLoop c = true) (Inv : Nat → Act → World → Prop) (step : ∀ k b w, Inv k b w → (loopB c).wp P (Exit.then (fun b' w' => ∃ k', k' < k ∧ Inv k' b' w') Q) b w) {k : Nat} (h0 : Inv k b w) : c.wp P Q b w := by
  cases c <;> first
    | (cases h; done)
    | skip
  rename_i x
  have key : ∀ n k b w, k < n → Inv k b w → Code.rounds P x Q n b w := by
    intro n
    induction n with
    | zero => intro k b w hk; omega
    | succ n ih =>
      intro k b w hk hi
      rw [rounds_succ]
      refine wp_mono (step k b w hi) fun e b' w' hq => ?_
      cases e with
      | normal =>
        obtain ⟨k', hk', hi'⟩ := hq
        exact ih k' b' w' (by omega) hi'
      | _ => exact hq
  exact wp_loop_rounds (k + 1) (key (k + 1) k b w (by omega) h0)
theorem plansIn_post : ∀ (k : Nat) (c : Code), plansIn c = true → plansIn (postC k c) = true
  | 0, c, h => h
  | k + 1, c, h => by
    cases c <;> first
      | exact h
      | skip
    rename_i a r
    simp only [plansIn, Bool.and_eq_true] at h
    exact plansIn_post k r h.2
theorem plansIn_L {c : Code} (h : plansIn c = true) : plansIn (seqL c) = true := by
  cases c <;> first
    | exact h
    | (simp only [plansIn, Bool.and_eq_true] at h; exact h.1)
theorem plansIn_R {c : Code} (h : plansIn c = true) : plansIn (seqR c) = true := by
  cases c <;> first
    | exact h
    | (simp only [plansIn, Bool.and_eq_true] at h; exact h.2)
theorem plansIn_B {c : Code} (h : plansIn c = true) : plansIn (blockB c) = true := by cases c <;> exact h
theorem plansIn_O {c : Code} (h : plansIn c = true) : plansIn (loopB c) = true := by cases c <;> exact h
end

section
variable {E : Env} {S : STab}
theorem code_pre (Snd : Sound E) : ∀ (k : Nat) (c : Code) (m : Nat) (a : BAct) (h : AH) (e : Exit) (a1 : BAct) (h1 : AH), seqsOK (k + 1) c = true → plansIn c = true → evalC E m (preC (k + 1) c) a h = some (e, a1, h1) → ¬ isPanic e →
    ∀ (ρ : Emb) (b : Act) (w : World) (Q : Exit → Act → World → Prop), ARel ρ a b → WRel ρ h w → (∀ ρ1 b1 w1, Step ρ w ρ1 w1 → ARel ρ1 a1 b1 → WRel ρ1 h1 w1 → Exit.then ((postC (k + 1) c).wp E.P Q) Q e b1 w1) → c.wp E.P Q b w
  | 0, c, m, a, h, e, a1, h1, hs, hp, hr, hnp, ρ, b, w, Q, ar, wr, kk => by
    cases c <;> simp only [seqsOK, Bool.false_eq_true] at hs
    rename_i x y
    simp only [plansIn, Bool.and_eq_true] at hp
    exact wp_seq ((eval_sim Snd m).1 x a h e a1 h1 hp.1 hr hnp ρ b w _ ar wr kk)
  | k + 1, c, m, a, h, e, a1, h1, hs, hp, hr, hnp, ρ, b, w, Q, ar, wr, kk => by
    cases c <;> simp only [seqsOK, Bool.false_eq_true] at hs
    rename_i x y
    simp only [plansIn, Bool.and_eq_true] at hp
    cases m with
    | zero => cases hr
    | succ m =>
      have hr : runSeq (evalC E m) (preC (k + 1) y) (evalC E m x a h) = some (e, a1, h1) := hr
      cases hx : evalC E m x a h with
      | none => rw [hx] at hr; cases hr
      | some p =>
        obtain ⟨ex, a', h'⟩ := p
        rw [hx] at hr
        by_cases hn : ex = .normal
        · subst hn
          have hr : evalC E m (preC (k + 1) y) a' h' = some (e, a1, h1) := hr
          refine wp_seq ((eval_sim Snd m).1 x a h .normal a' h' hp.1 hx (fun h => h) ρ b w _ ar wr fun ρ1 b1 w1 st ar1 wr1 => ?_)
          exact code_pre Snd k y m a' h' e a1 h1 (by cases y <;> simp_all [seqsOK]) hp.2 hr hnp ρ1 b1 w1 Q ar1 wr1 fun ρ2 b2 w2 st2 ar2 wr2 => kk ρ2 b2 w2 (st.trans st2) ar2 wr2
        · have : (ex, a', h') = (e, a1, h1) := by
            unfold runSeq at hr
            cases ex <;> simp only [Option.some.injEq] at hr <;> first
              | exact hr
              | exact absurd rfl hn
          simp only [Prod.mk.injEq] at this
          obtain ⟨rfl, rfl, rfl⟩ := this
          refine wp_seq ((eval_sim Snd m).1 x a h ex a' h' hp.1 hx hnp ρ b w _ ar wr fun ρ1 b1 w1 st ar1 wr1 => ?_)
          have := kk ρ1 b1 w1 st ar1 wr1
          cases ex <;> first
            | exact this
            | exact absurd rfl hn

/-- The first statements of a row, told by a tree of what is kept. -/
theorem StL.pre (Snd : Sound E) (ht : TabHom E S) (m k : Nat) {ρ0 : Emb} {w0 w : World} {n : Nat} {L : List (Nat × SV)} {O : List SObj} {b : Act} {c : Code} {V : SExit → VSp} {T : Tree View} {Q : Exit → Act → World → Prop}
    (hn : n ≤ 512) (hV : VOK V) (hp : plansIn c = true) (hs : seqsOK (k + 1) c = true)
    (hv : ∀ j, (evalS E S m (preC (k + 1) c) (mkA n L j) (mkH O)).mapO (viewS n V) = T)
    (st : StL ρ0 w0 n L O b w)
    (kk : ∃ x, T.pick = some x ∧ notPanic x.e = true ∧ ∀ b1 w1, StL ρ0 w0 n ((V x.e).s.zip x.vs) x.os b1 w1 → Exit.then ((postC (k + 1) c).wp E.P Q) Q x.e.den b1 w1) : c.wp E.P Q b w := by
  obtain ⟨x, hx, hnp, kk⟩ := kk
  obtain ⟨j, ρ, ar, wr, fr⟩ := st
  have hvj := hv j
  rw [← hvj] at hx
  obtain ⟨r, hr, hvr⟩ := Tree.pick_mapO _ _ _ hx
  have hxe := view_e hvr
  obtain ⟨e, a1, h1⟩ := r
  obtain ⟨he, _⟩ := evalS_sim ht m _ _ _ e a1 h1 ar.wf hr
  have hxe : x.e = e := hxe
  refine code_pre Snd k c m _ _ e.den a1.den h1.den hs hp he (fun hpan => ?_) ρ b w _ ar wr fun ρ1 b1 w1 st1 ar1 wr1 => ?_
  · rw [hxe] at hnp
    cases e <;> first
      | exact hpan
      | cases hnp
  · rw [← hxe]
    exact kk b1 w1 (StL.of_run hn hvr hV ar1 wr1 (fr.trans st1.frame))
end

/-! Other words for the same state. -/
theorem Tr.put_map' {α β : Type} (g : α → β) (x : α) (d : Nat) (t : Tr α) (i : Nat) : (Tr.put d t i (.leaf x)).map g = Tr.put d (t.map g) i (.leaf (g x)) := (Tr.put_map g x d t i).symm
theorem listT_map {α β : Type} (g : α → β) : ∀ (l : List α) (i : Nat) (t : Tr α), (listT i l t).map g = listT i (l.map g) (t.map g)
  | [], _, _ => rfl
  | c :: l, i, t => by
    simp only [listT, List.map_cons]
    rw [listT_map g l, Tr.put_map']
theorem mkH_den (O : List SObj) : (mkH O).den = ⟨listT 0 (O.map SObj.den ++ [.dead]) .nil, O.length + 1, []⟩ := by
  unfold mkH SH.den
  simp only [listT_map, List.map_append, List.map_cons, List.map_nil]
  rfl
theorem lookL_den : ∀ (s : List Nat) (vs us : List SV), dens vs = dens us → ∀ t, (lookL (s.zip vs) t).map SV.den = (lookL (s.zip us) t).map SV.den
  | [], _, _, _, _ => rfl
  | _ :: _, [], [], _, _ => rfl
  | _ :: _, [], _ :: _, h, _ => by simp [dens] at h
  | _ :: _, _ :: _, [], h, _ => by simp [dens] at h
  | s :: ss, v :: vs, u :: us, h, t => by
    simp only [dens, List.cons.injEq] at h
    simp only [List.zip_cons_cons, lookL]
    cases Nat.beq s t with
    | true => simp [h.1]
    | false => exact lookL_den ss vs us h.2 t
theorem StL.conv {ρ0 : Emb} {w0 w : World} {n : Nat} {s : List Nat} {vs us : List SV} {O O' : List SObj} {b : Act} (st : StL ρ0 w0 n (s.zip vs) O b w) (hv : dens vs = dens us) (ho : O.map SObj.den = O'.map SObj.den) : StL ρ0 w0 n (s.zip us) O' b w := by
  obtain ⟨j, ρ, ar, wr, fr⟩ := st
  refine ⟨j, ρ, ?_, ?_, fr⟩
  · have : (mkA n (s.zip us) j).den = (mkA n (s.zip vs) j).den := by
      unfold mkA
      rw [start_den, start_den]
      congr 1
      simp only [dens_map, List.map_map]
      refine List.map_congr_left fun t _ => ?_
      have := lookL_den s vs us hv t
      simp only [Function.comp, slotOf]
      cases h1 : lookL (s.zip vs) t <;> cases h2 : lookL (s.zip us) t <;> rw [h1, h2] at this <;> simp_all
    rw [this]
    exact ar
  · have hl : O'.length = O.length := by
      have := congrArg List.length ho
      simpa using this.symm
    rw [mkH_den, ← ho, hl, ← mkH_den]
    exact wr

/-! Calls. -/
theorem lookL_range : ∀ (l : List SV) (i t : Nat), lookL ((List.range' i l.length).zip l) t = if i ≤ t then l[t - i]? else none
  | [], i, t => by simp [lookL]
  | v :: l, i, t => by
    simp only [List.length_cons, List.range'_succ, List.zip_cons_cons, lookL]
    cases hb : Nat.beq i t with
    | true =>
      obtain rfl := Nat.eq_of_beq_eq_true hb
      simp
    | false =>
      have hne : i ≠ t := fun h => by subst h; rw [Nat.beq_refl] at hb; cases hb
      rw [cond_false, lookL_range l (i + 1) t]
      by_cases h : i ≤ t
      · rw [if_pos h, if_pos (by omega)]
        have : t - i = (t - (i + 1)) + 1 := by omega
        rw [this, List.getElem?_cons_succ]
      · rw [if_neg h, if_neg (by omega)]
abbrev argL (l : List SV) : List (Nat × SV) := (List.range' 0 l.length).zip l
section
variable {E : Env} {S : STab}
theorem calls_StL {f : FuncId} {fn : Func} {c : Code} (hf : E.P.funcs[f]? = some fn) (hb : fn.body = some c) {n : Nat} (hnn : fn.ntmps = n) (hn : n ≤ 512) {sargs : List SV} (hl : sargs.length ≤ n) {O : List SObj} {ρ0 : Emb} {w : World} {args' : Array Value}
    (wr : WRel ρ0 (mkH O).den w) (ra : VsRel ρ0 (dens sargs) args'.toList) {R : Ending → World → Prop} (k : ∀ b, StL ρ0 w n (argL sargs) O b w → c.wp E.P (bodyPostD E.P fn R) b w) : Calls E.P f args' w R := by
  subst hnn
  refine calls_of_wp_defers hf hb (k _ ⟨fun _ => undef, ρ0, ?_, wr, Frame1.refl _ _⟩)
  have ar := ARel.start hn ra (by rw [dens_length]; exact hl)
  refine ⟨mkA_wf hn _ _, by rw [mkA_n]; exact ar.size.trans (BAct.n_start _ _), fun t => ?_, by rw [mkA_defers]; exact .nil⟩
  have := ar.slot t
  rw [BAct.slot_start hn (by rw [dens_length]; exact hl)] at this
  rw [mkA_slot hn]
  by_cases ht : t < fn.ntmps
  · rw [if_pos ht]
    unfold slotOf
    rw [lookL_range, if_pos (Nat.zero_le _), Nat.sub_zero]
    rw [dens_get] at this
    cases hg : sargs[t]? with
    | none => rw [hg] at this; exact this
    | some v => rw [hg] at this; exact this
  · rw [if_neg ht]
    rw [List.getElem?_eq_none (by rw [dens_length]; omega)] at this
    exact this
theorem StL.finish {ρ0 : Emb} {w0 w : World} {n : Nat} {L : List (Nat × SV)} {O : List SObj} {b : Act} {fn : Func} {vs : List SV} (hres : ∀ j, ((sResults E.P (mkA n L j) fn.results.toList).run 0 (mkH O)) = .leaf (vs, mkH O)) (st : StL ρ0 w0 n L O b w) {R : Ending → World → Prop}
    (k : ∀ ρ v', VRel ρ (packedS vs).den v' → WRel ρ (mkH O).den w → Frame1 ρ0 w0 ρ w → R (.returned v') w) : Leaves E.P fn b.tmps R b.defers .returning w := by
  obtain ⟨j, ρ, ar, wr, fr⟩ := st
  have hd := ar.defers
  rw [mkA_defers] at hd
  have hb : b.defers = [] := by
    generalize b.defers = bd at hd
    cases hd
    rfl
  rw [hb]
  have hp : (((sResults E.P (mkA n L j) fn.results.toList).run 0 (mkH O))).pick = some (vs, mkH O) := by rw [hres j]; rfl
  obtain ⟨us, e1, e2⟩ := run_hom (sResults_hom (mkA n L j) fn.results.toList) 0 (mkH O) vs (mkH O) hp
  subst e2
  obtain ⟨_, v', e3, e4⟩ := results_rel (P := E.P) wr ar fn e1
  rw [packed_den] at e4
  exact ⟨v', e3, k ρ v' e4 wr fr⟩
end

/-! The end of a call that gives a plain value and writes nothing old. -/
theorem below_of_ro {ρc ρf : Emb} {w w1 : World} (hro : ∀ i g, ρc i = .img g → g.rw = false) (fr : Frame1 ρc w ρf w1) : Below w.heap.size w w1 :=
  ⟨fr.os, fr.tape, fr.output, fr.size, fun k hk => fr.old k hk fun i g hg hr => by rw [hro i g hg] at hr; cases hr⟩
theorem CallEnd.plain {ρ ρc ρf : Emb} {h : AH} {w w1 : World} (wr : WRel ρ h w) (hn : h.next + 1 ≤ most) (hro : ∀ i g, ρc i = .img g → g.rw = false) {u v' : Value} (hu : plainR u = true) (rv : VRel ρf u v') (fr : Frame1 ρc w ρf w1) :
    CallEnd ρ w u (h.more 1) (.returned v') w1 := by
  have hb := below_of_ro hro fr
  exact ⟨u, ρ, by rw [plainR_eq hu rv], plainR_rel hu, (wr.more hn).below hb, Step.of_below hb⟩

/-! A piece of the great heap, to be read. -/
def subEmb (ρ : Emb) (r off : Nat) : Emb := fun i =>
  if i = 0 then (match ρ r with
    | .img g => .img ⟨g.b, g.base + off, g.n, false⟩
    | s => s)
  else if i = 1 then .dead else .free
theorem subEmb_ro (ρ : Emb) (r off : Nat) : ∀ i g, subEmb ρ r off i = .img g → g.rw = false := by
  intro i g hg
  unfold subEmb at hg
  split at hg
  · cases hr : ρ r with
    | img g0 => rw [hr] at hg; cases hg; rfl
    | free => rw [hr] at hg; cases hg
    | dead => rw [hr] at hg; cases hg
  · split at hg <;> cases hg
theorem sub_WRel {ρ : Emb} {h : AH} {w : World} (wr : WRel ρ h w) {r off : Nat} {d l : List Value} {rw0 : Bool} (hg : h.get r = some (.cells d rw0)) (ht : takeCells d off l.length = some l) (hp : l.all plain1 = true) {o : SObj} (ho : o.den = .cells l false) : WRel (subEmb ρ r off) (mkH [o]).den w := by
  have hlv := wr.cells? hg
  have hle : off + l.length ≤ d.length ∧ (d.drop off).take l.length = l := by
    unfold takeCells at ht
    cases hb : Nat.ble (Nat.add off l.length) d.length with
    | false => rw [hb] at ht; cases ht
    | true =>
      rw [hb] at ht
      simp only [cond_true, Option.some.injEq] at ht
      exact ⟨nat_ble hb, ht⟩
  have h1m : ([o] : List SObj).length < most := by simp [most]
  refine ⟨mkH_ok h1m, fun i => ?_, fun i j gi gj _ hi _ hr => by rw [subEmb_ro ρ r off i gi hi] at hr; cases hr⟩
  rw [SH.den_get, mkH_get h1m]
  simp only [List.length_singleton]
  by_cases h1 : i = 1
  · subst h1
    rfl
  · rw [if_neg h1]
    by_cases h0 : i = 0
    · subst h0
      simp only [List.getElem?_cons_zero, Option.map_some, ho]
      rcases hlv with ⟨g, hgi, h5, c', et, fz, h6, h7, h8, h9, _⟩ | ⟨hdd, rfl, rfl⟩
      case inr =>
        have hl0 : l = [] := List.length_eq_zero_iff.1 (by have := hle.1; simp only [List.length_nil] at this; omega)
        subst hl0
        exact .inr ⟨by unfold subEmb; rw [if_pos rfl, hdd], rfl⟩
      refine .inl ⟨⟨g.b, g.base + off, g.n, false⟩, by unfold subEmb; rw [if_pos rfl, hgi], rfl, c', et, fz, h6, h7, by simp only; omega, fun j v hj => ?_, fun hf => by cases hf⟩
      have hjl := (List.getElem?_eq_some_iff.1 hj).1
      have hd : d[off + j]? = some v := by
        rw [← hle.2, List.getElem?_take_of_lt hjl, List.getElem?_drop] at hj
        exact hj
      obtain ⟨v', e1, e2⟩ := h9 (off + j) v hd
      rw [List.all_eq_true] at hp
      have hv := hp v (List.mem_of_getElem? hj)
      rw [plain1_eq hv e2] at e1
      exact ⟨v, by simp only; rw [← e1]; congr 1; omega, plain1_rel hv⟩
    · have : ([o] : List SObj)[i]? = none := List.getElem?_eq_none (by simp; omega)
      rw [this]
      show subEmb ρ r off i = .free
      unfold subEmb
      rw [if_neg h0, if_neg h1]
theorem sub_slice {ρ : Emb} {h : AH} {w : World} (wr : WRel ρ h w) {r off : Nat} {d : List Value} {rw0 : Bool} (hg : h.get r = some (.cells d rw0)) {n s : Nat} {v' : Value} (rv : VRel ρ (.slice (some ⟨r, off, none⟩) n s) v') : VRel (subEmb ρ r off) (.slice (some ⟨0, 0, none⟩) n s) v' := by
  rcases wr.cells? hg with ⟨g, hgi, _⟩ | ⟨hdd, _⟩
  case inr =>
    have h0 : subEmb ρ r off 0 = .dead := by unfold subEmb; rw [if_pos rfl, hdd]
    cases rv with
    | sl a a' len c cap' hr => exact .sl _ a' _ _ cap' ⟨by show subEmb ρ r off 0 ≠ _; rw [h0]; simp, rfl, hr.2.2.1, fun g1 hg1 => by rw [h0] at hg1; cases hg1⟩
  cases rv with
  | sl a a' len c cap' hr =>
    refine .sl _ a' _ _ cap' ⟨?_, rfl, hr.2.2.1, fun g1 hg1 => ?_⟩
    · show subEmb ρ r off 0 ≠ _
      unfold subEmb
      rw [if_pos rfl, hgi]
      simp
    · have hg1 : subEmb ρ r off 0 = .img g1 := hg1
      unfold subEmb at hg1
      rw [if_pos rfl, hgi] at hg1
      simp only [Slot.img.injEq] at hg1
      subst hg1
      rcases hr.2.2.2 g hgi with h1 | ⟨h1, h2, h3, h4⟩
      · exact .inl h1
      · exact .inr ⟨h1, h2, by simp only at h3 ⊢; omega, by simp only; exact h4⟩
end Go.Ev
end
section
/-! Views whose objects are found through slots. -/
namespace Go.Ev
open Go.RowKit
section
noncomputable section
/-- An object that is kept: by its number, or as the one that a slot points into, or a cell of that one (opt: if it points anywhere). -/
inductive VK where
  | id (n : Nat)
  | of (t : Nat)
  | fld (t k : Nat)
  | opt (t k : Nat)
structure VSd where
  s : List Nat
  k : List VK
def vselD (a r x : VSd) (e : SExit) : VSd :=
  match e with
  | .normal => a
  | .ret => r
  | _ => x
def blkOf : SV → Nat
  | .sl b _ _ _ => b
  | .ptr b _ => b
  | _ => 0
def isRef : SV → Bool
  | .sl _ _ _ _ => true
  | .ptr _ _ => true
  | _ => false
def cellS (h : SH) (b k : Nat) : SV :=
  match h.get b with
  | some o => match o with
    | .cells l _ => l.getD k sUndef
    | _ => sUndef
  | none => sUndef
def VK.ats (a : SAct) (h : SH) : VK → List Nat
  | .id n => [n]
  | .of t => [blkOf (a.slot t)]
  | .fld t k => [blkOf (cellS h (blkOf (a.slot t)) k)]
  | .opt t k => sel (isRef (cellS h (blkOf (a.slot t)) k)) [blkOf (cellS h (blkOf (a.slot t)) k)] []
def keptOf (a : SAct) (h : SH) : List VK → List Nat
  | [] => []
  | k :: l => k.ats a h ++ keptOf a h l
def distinct : List Nat → Bool
  | [] => true
  | x :: l => l.all (fun y => !(Nat.beq x y)) && distinct l
def viewD (n : Nat) (V : SExit → VSd) (r : SExit × SAct × SH) : Option View :=
  bif distinct (keptOf r.2.1 r.2.2 (V r.1).k) && Nat.blt (keptOf r.2.1 r.2.2 (V r.1).k).length most then viewS n (fun _ => ⟨(V r.1).s, keptOf r.2.1 r.2.2 (V r.1).k⟩) r else none
end
end
theorem distinct_nodup : ∀ {l : List Nat}, distinct l = true → l.Nodup
  | [], _ => List.nodup_nil
  | x :: l, h => by
    simp only [distinct, Bool.and_eq_true, List.all_eq_true, Bool.not_eq_true'] at h
    refine List.nodup_cons.2 ⟨fun hx => ?_, distinct_nodup h.2⟩
    have := h.1 x hx
    rw [Nat.beq_refl] at this
    cases this
theorem viewD_spec {n : Nat} {V : SExit → VSd} {r : SExit × SAct × SH} {x : View} (h : viewD n V r = some x) : VOK (fun _ => ⟨(V r.1).s, keptOf r.2.1 r.2.2 (V r.1).k⟩) ∧ viewS n (fun _ => ⟨(V r.1).s, keptOf r.2.1 r.2.2 (V r.1).k⟩) r = some x := by
  unfold viewD at h
  cases hc : (distinct (keptOf r.2.1 r.2.2 (V r.1).k) && Nat.blt (keptOf r.2.1 r.2.2 (V r.1).k).length most) with
  | false => rw [hc] at h; cases h
  | true =>
    rw [hc] at h
    simp only [Bool.and_eq_true] at hc
    exact ⟨fun _ => ⟨distinct_nodup hc.1, by simpa using lt_of_blt hc.2⟩, h⟩
variable {E : Env} {S : STab}
theorem StL.pieceD (Snd : Sound E) (ht : TabHom E S) (m : Nat) {ρ0 : Emb} {w0 w : World} {n : Nat} {L : List (Nat × SV)} {O : List SObj} {b : Act} {c : Code} {V : SExit → VSd} {T : Tree View} {Q : Exit → Act → World → Prop}
    (hn : n ≤ 512) (hp : plansIn c = true)
    (hv : ∀ j, (evalS E S m c (mkA n L j) (mkH O)).mapO (viewD n V) = T)
    (st : StL ρ0 w0 n L O b w)
    (k : ∃ x, T.pick = some x ∧ notPanic x.e = true ∧ ∀ b1 w1, StL ρ0 w0 n ((V x.e).s.zip x.vs) x.os b1 w1 → Q x.e.den b1 w1) : c.wp E.P Q b w := by
  obtain ⟨x, hx, hnp, k⟩ := k
  obtain ⟨j, ρ, ar, wr, fr⟩ := st
  have hvj := hv j
  rw [← hvj] at hx
  obtain ⟨r, hr, hvr⟩ := Tree.pick_mapO _ _ _ hx
  obtain ⟨hV, hvr⟩ := viewD_spec hvr
  have hxe := view_e hvr
  obtain ⟨e, a1, h1⟩ := r
  obtain ⟨he, _⟩ := evalS_sim ht m c _ _ e a1 h1 ar.wf hr
  have hxe : x.e = e := hxe
  refine (eval_sim Snd m).1 c _ _ e.den a1.den h1.den hp he (fun hpan => ?_) ρ b w _ ar wr fun ρ1 b1 w1 st1 ar1 wr1 => ?_
  · rw [hxe] at hnp
    cases e <;> first
      | exact hpan
      | cases hnp
  · rw [← hxe]
    refine k b1 w1 ?_
    have := StL.of_run hn hvr hV ar1 wr1 (fr.trans st1.frame)
    rw [hxe]
    exact this
theorem StL.preD (Snd : Sound E) (ht : TabHom E S) (m k : Nat) {ρ0 : Emb} {w0 w : World} {n : Nat} {L : List (Nat × SV)} {O : List SObj} {b : Act} {c : Code} {V : SExit → VSd} {T : Tree View} {Q : Exit → Act → World → Prop}
    (hn : n ≤ 512) (hp : plansIn c = true) (hs : seqsOK (k + 1) c = true)
    (hv : ∀ j, (evalS E S m (preC (k + 1) c) (mkA n L j) (mkH O)).mapO (viewD n V) = T)
    (st : StL ρ0 w0 n L O b w)
    (kk : ∃ x, T.pick = some x ∧ notPanic x.e = true ∧ ∀ b1 w1, StL ρ0 w0 n ((V x.e).s.zip x.vs) x.os b1 w1 → Exit.then ((postC (k + 1) c).wp E.P Q) Q x.e.den b1 w1) : c.wp E.P Q b w := by
  obtain ⟨x, hx, hnp, kk⟩ := kk
  obtain ⟨j, ρ, ar, wr, fr⟩ := st
  have hvj := hv j
  rw [← hvj] at hx
  obtain ⟨r, hr, hvr⟩ := Tree.pick_mapO _ _ _ hx
  obtain ⟨hV, hvr⟩ := viewD_spec hvr
  have hxe := view_e hvr
  obtain ⟨e, a1, h1⟩ := r
  obtain ⟨he, _⟩ := evalS_sim ht m _ _ _ e a1 h1 ar.wf hr
  have hxe : x.e = e := hxe
  refine code_pre Snd k c m _ _ e.den a1.den h1.den hs hp he (fun hpan => ?_) ρ b w _ ar wr fun ρ1 b1 w1 st1 ar1 wr1 => ?_
  · rw [hxe] at hnp
    cases e <;> first
      | exact hpan
      | cases hnp
  · rw [← hxe]
    refine kk b1 w1 ?_
    have := StL.of_run hn hvr hV ar1 wr1 (fr.trans st1.frame)
    rw [hxe]
    exact this
end Go.Ev
end
section
namespace Go.Ev
open Go.RowKit
section defs
noncomputable section
/-- More functions told. -/
abbrev Tab := FuncId → Option (List Value → Nat → AM Value)
def Env.add (E : Env) (t : Tab) : Env := { E with tab := fun f => match t f with
  | some r => some r
  | none => E.tab f }
def addS (s t : STab) : STab := fun f => match s f with
  | some r => some r
  | none => t f
def scalA (spec : List Value → Option Value) : List Value → Nat → AM Value := fun args _ => ofOpt (spec args)
def scalS (spec : List SV → Option SV) : List SV → Nat → SM SV := fun args _ => match spec args with
  | some v => .ret v
  | none => .fail
/-- One function. -/
def one (f : FuncId) (r : List Value → Nat → AM Value) : Tab := fun g => bif Nat.beq g f then some r else none
def oneSym (f : FuncId) (r : List SV → Nat → SM SV) : STab := fun g => bif Nat.beq g f then some (.val r) else none
/-- One function that may panic; one that recovers. -/
def onePan (f : FuncId) (r : List SV → Nat → SM (Bool × SV)) : STab := fun g => bif Nat.beq g f then some (.pan r) else none
def oneRec (f : FuncId) (q : List SV → SV → SM Unit) : STab := fun g => bif Nat.beq g f then some (.recd q) else none
def Env.addP (E : Env) (f : FuncId) (r : List Value → Nat → AM (Bool × Value)) : Env := { E with ptab := fun g => bif Nat.beq g f then some r else E.ptab g }
def Env.addQ (E : Env) (f : FuncId) (n : Nat) : Env := { E with quietD := fun g m => (Nat.beq g f && Nat.beq m n) || E.quietD g m }
def Env.addR (E : Env) (f : FuncId) (q : List Value → Value → AM Unit) : Env := { E with recov := fun g => bif Nat.beq g f then some q else E.recov g }
def noTab : Tab := fun _ => none
def noS : STab := fun _ => none
end
end defs

/-- What an entry of a table must be. -/
def TabOK (P : Program) (f : FuncId) (r : List Value → Nat → AM Value) : Prop :=
  ∀ ρ h w args args' v h1, WRel ρ h w → VsRel ρ args (Array.toList args') → tabF r args h = some (.returned v, h1) → Calls P f args' w (CallEnd ρ w v h1)
theorem Sound.add {E : Env} (Snd : Sound E) {f : FuncId} {r : List Value → Nat → AM Value} (h : TabOK E.P f r) : Sound (E.add (one f r)) := by
  refine ⟨Snd.noOwn, Snd.mixed, Snd.plans, fun g r' hg => ?_, Snd.quiet, Snd.ptab, Snd.recov⟩
  unfold Env.add one at hg
  simp only at hg
  cases hb : Nat.beq g f with
  | true =>
    rw [hb] at hg
    simp only [cond_true, Option.some.injEq] at hg
    subst hg
    obtain rfl := Nat.eq_of_beq_eq_true hb
    exact h
  | false =>
    rw [hb] at hg
    exact Snd.tab g r' hg
theorem TabHom.none {E : Env} : TabHom E noS := fun f r h => by cases h
theorem TabHom.add {E : Env} {S : STab} (ht : TabHom E S) {f : FuncId} {r : List Value → Nat → AM Value} {s : List SV → Nat → SM SV} (h : ∀ args id, Hom HV (s args id) (r (dens args) id)) : TabHom (E.add (one f r)) (addS (oneSym f s) S) := by
  intro g s' hg
  unfold addS oneSym at hg
  cases hb : Nat.beq g f with
  | true =>
    rw [hb] at hg
    simp only [cond_true, Option.some.injEq] at hg
    subst hg
    exact ⟨r, by simp only [Env.add, one, hb, cond_true], h⟩
  | false =>
    rw [hb] at hg
    have := ht g s' hg
    cases s' with
    | val r2 =>
      obtain ⟨r', h1, h2⟩ := this
      exact ⟨r', by simp only [Env.add, one, hb, cond_false]; exact h1, h2⟩
    | pan r2 =>
      obtain ⟨h0, r', h1, h2⟩ := this
      exact ⟨by simp only [Env.add, one, hb, cond_false]; exact h0, r', h1, h2⟩
    | recd q =>
      obtain ⟨q', h1, h2⟩ := this
      exact ⟨q', h1, h2⟩
theorem Sound.addP {E : Env} (Snd : Sound E) {f : FuncId} {r : List Value → Nat → AM (Bool × Value)}
    (h : ∀ ρ h w args args' p h1, WRel ρ h w → VsRel ρ args (Array.toList args') → runNew (r args) h = some (p, h1) → Calls E.P f args' w (fun e w1 => ∃ v' ρ1, e = endE p.1 v' ∧ VRel ρ1 p.2 v' ∧ WRel ρ1 h1 w1 ∧ Step ρ w ρ1 w1)) : Sound (E.addP f r) := by
  refine ⟨Snd.noOwn, Snd.mixed, Snd.plans, Snd.tab, Snd.quiet, fun g r' hg => ?_, Snd.recov⟩
  unfold Env.addP at hg
  simp only at hg
  cases hb : Nat.beq g f with
  | true =>
    rw [hb] at hg
    simp only [cond_true, Option.some.injEq] at hg
    subst hg
    obtain rfl := Nat.eq_of_beq_eq_true hb
    exact h
  | false =>
    rw [hb] at hg
    exact Snd.ptab g r' hg
theorem Sound.addR {E : Env} (Snd : Sound E) {f : FuncId} {q : List Value → Value → AM Unit}
    (h : (∃ fn, E.P.funcs[f]? = some fn ∧ fn.body.isSome = true) ∧ ∀ ρ h w args args' v v' u h1, WRel ρ h w → VsRel ρ args (Array.toList args') → VRel ρ v v' → runNew (fun _ => q args v) h = some (u, h1) →
      CallsD E.P f args' (.panicking [⟨v', false, false⟩]) w (fun e u' w' => (∃ v, e = .returned v) ∧ settle u' = .returning ∧ ∃ ρ1, WRel ρ1 h1 w' ∧ Step ρ w ρ1 w')) : Sound (E.addR f q) := by
  refine ⟨Snd.noOwn, Snd.mixed, Snd.plans, Snd.tab, Snd.quiet, Snd.ptab, fun g r' hg => ?_⟩
  unfold Env.addR at hg
  simp only at hg
  cases hb : Nat.beq g f with
  | true =>
    rw [hb] at hg
    simp only [cond_true, Option.some.injEq] at hg
    subst hg
    obtain rfl := Nat.eq_of_beq_eq_true hb
    exact h
  | false =>
    rw [hb] at hg
    exact Snd.recov g r' hg
theorem Sound.addQ {E : Env} (Snd : Sound E) {f : FuncId} {n : Nat}
    (h : (∃ fn, E.P.funcs[f]? = some fn ∧ fn.body.isSome = true) ∧ ∀ ρ h w (args : Array Value), args.size = n → WRel ρ h w →
      CallsD E.P f args .returning w (fun e u' w' => (∃ v, e = .returned v) ∧ u' = .returning ∧ WRel ρ h w' ∧ Step ρ w ρ w')) : Sound (E.addQ f n) := by
  refine ⟨Snd.noOwn, Snd.mixed, Snd.plans, Snd.tab, fun g m hg => ?_, Snd.ptab, Snd.recov⟩
  unfold Env.addQ at hg
  simp only [Bool.or_eq_true, Bool.and_eq_true] at hg
  rcases hg with ⟨h1, h2⟩ | h3
  · obtain rfl := Nat.eq_of_beq_eq_true h1
    obtain rfl := Nat.eq_of_beq_eq_true h2
    exact h
  · exact Snd.quiet g m h3
theorem TabHom.addQ {E : Env} {S : STab} (ht : TabHom E S) {f : FuncId} {n : Nat} : TabHom (E.addQ f n) S := by
  intro g s' hg
  have := ht g s' hg
  cases s' with
  | val r2 => exact this
  | pan r2 => exact this
  | recd q => exact this
theorem TabHom.addP {E : Env} {S : STab} (ht : TabHom E S) {f : FuncId} (hf : E.tab f = Option.none) {r : List Value → Nat → AM (Bool × Value)} {s : List SV → Nat → SM (Bool × SV)} (h : ∀ args id, Hom HB (s args id) (r (dens args) id)) : TabHom (E.addP f r) (addS (onePan f s) S) := by
  intro g s' hg
  unfold addS onePan at hg
  cases hb : Nat.beq g f with
  | true =>
    rw [hb] at hg
    simp only [cond_true, Option.some.injEq] at hg
    subst hg
    obtain rfl := Nat.eq_of_beq_eq_true hb
    exact ⟨hf, r, by simp only [Env.addP, hb, cond_true], h⟩
  | false =>
    rw [hb] at hg
    have := ht g s' hg
    cases s' with
    | val r2 => exact this
    | pan r2 =>
      obtain ⟨h0, r', h1, h2⟩ := this
      exact ⟨h0, r', by simp only [Env.addP, hb, cond_false]; exact h1, h2⟩
    | recd q => exact this
theorem TabHom.addR {E : Env} {S : STab} (ht : TabHom E S) {f : FuncId} {q : List Value → Value → AM Unit} {s : List SV → SV → SM Unit} (h : ∀ args v, Hom (fun _ _ => True) (s args v) (q (dens args) v.den)) : TabHom (E.addR f q) (addS (oneRec f s) S) := by
  intro g s' hg
  unfold addS oneRec at hg
  cases hb : Nat.beq g f with
  | true =>
    rw [hb] at hg
    simp only [cond_true, Option.some.injEq] at hg
    subst hg
    exact ⟨q, by simp only [Env.addR, hb, cond_true], h⟩
  | false =>
    rw [hb] at hg
    have := ht g s' hg
    cases s' with
    | val r2 => exact this
    | pan r2 => exact this
    | recd q2 =>
      obtain ⟨q', h1, h2⟩ := this
      exact ⟨q', by simp only [Env.addR, hb, cond_false]; exact h1, h2⟩
theorem scal_hom {spec : List Value → Option Value} {sspec : List SV → Option SV} (h : ∀ args v, sspec args = some v → spec (dens args) = some v.den) : ∀ args id, Hom HV (scalS sspec args id) (scalA spec (dens args) id) := by
  intro args id
  unfold scalS scalA
  cases hs : sspec args with
  | none => exact .fail _
  | some v => rw [h args v hs]; exact .ret _ _ rfl

theorem tabF_some {r : List Value → Nat → AM Value} {args : List Value} {h h1 : AH} {v : Value} (e : tabF r args h = some (.returned v, h1)) : h.next + 1 ≤ most ∧ (r args h.next).run h.next (h.more 1) = some (v, h1) := by
  unfold tabF at e
  cases hb : Nat.blt h.next most with
  | false => rw [hb] at e; cases e
  | true =>
    rw [hb] at e
    simp only [cond_true] at e
    refine ⟨lt_of_blt hb, ?_⟩
    cases hr : (r args h.next).run h.next ⟨h.t, h.next + 1, h.log⟩ with
    | none => rw [hr] at e; cases e
    | some p =>
      obtain ⟨u, h2⟩ := p
      rw [hr] at e
      simp only [Option.some.injEq, Prod.mk.injEq, AEnd.returned.injEq] at e
      obtain ⟨rfl, rfl⟩ := e
      exact hr
theorem CallEnd.of_below {ρ : Emb} {h : AH} {w w1 : World} (wr : WRel ρ h w) (hn : h.next + 1 ≤ most) {u : Value} (hu : plainR u = true) (hb : Below w.heap.size w w1) : CallEnd ρ w u (h.more 1) (.returned u) w1 :=
  ⟨u, ρ, rfl, plainR_rel hu, (wr.more hn).below hb, Step.of_below hb⟩
theorem ofOpt_run {α : Type} {o : Option α} {id : Nat} {h h1 : AH} {v : α} (e : (ofOpt o).run id h = some (v, h1)) : o = some v ∧ h1 = h := by
  cases o with
  | none => cases e
  | some a =>
    simp only [ofOpt, AM.run, Option.some.injEq, Prod.mk.injEq] at e
    exact ⟨by rw [e.1], e.2.symm⟩
theorem scal_tab {P : Program} {f : FuncId} {spec : List Value → Option Value} (h : ∀ args v, spec args = some v → args.all plainV = true ∧ plainR v = true ∧ ∀ w, Calls P f args.toArray w fun e w' => e = .returned v ∧ Below w.heap.size w w') : TabOK P f (scalA spec) := by
  intro ρ hh w args args' v h1 wr ra e
  obtain ⟨hn, e⟩ := tabF_some e
  obtain ⟨hs, rfl⟩ := ofOpt_run e
  obtain ⟨k1, k2, k3⟩ := h args v hs
  have : args' = args.toArray := Array.toList_inj.1 (plainVs_eq _ _ k1 ra)
  subst this
  refine Calls.mono (k3 w) ?_
  rintro e w' ⟨rfl, hb⟩
  exact CallEnd.of_below wr hn k2 hb

/-- A call at plain arguments, told by a walk over open terms. -/
theorem closed_tree {E : Env} {S : STab} (Snd : Sound E) (ht : TabHom E S) (m : Nat) (f : FuncId) {sargs : List SV} {v : SV} {h1 : SH} (e : (evalCallS E S m f sargs SH.empty).pick = some (.returned v, h1)) (ha : (dens sargs).all plainV = true) (hv : plainR v.den = true) (w : World) :
    Calls E.P f (dens sargs).toArray w fun e w' => e = .returned v.den ∧ Below w.heap.size w w' := by
  have ec := evalCallS_sim ht m e
  refine Calls.mono (evalCall_sound Snd m ec (empty_rel w) (plainVs_rel _ ha)) ?_
  rintro e w' ⟨v', ρ1, rfl, rv, _, st⟩
  exact ⟨by rw [plainR_eq hv rv], st.below⟩

/-! Trees of a few ways. -/
def Holds {α : Type} (p : α → Prop) (t : Tree α) : Prop := ∃ x, t.pick = some x ∧ p x
theorem Holds.leaf {α : Type} {p : α → Prop} {a : α} (h : p a) : Holds p (.leaf a) := ⟨a, rfl, h⟩
theorem Holds.node {α : Type} {p : α → Prop} {c : Bool} {t f : Tree α} (ht : c = true → Holds p t) (hf : c = false → Holds p f) : Holds p (.node c t f) := by
  cases c with
  | true => exact ht rfl
  | false => exact hf rfl
noncomputable def endT (t : Tree (SEnd × SH)) : Tree SEnd := t.mapO fun r => some r.1
theorem endT_pick {t : Tree (SEnd × SH)} {x : SEnd} (h : (endT t).pick = some x) : ∃ h1, t.pick = some (x, h1) := by
  obtain ⟨⟨y, h1⟩, e1, e2⟩ := Tree.pick_mapO _ _ _ h
  simp only [Option.some.injEq] at e2
  subst e2
  exact ⟨h1, e1⟩
/-- A scalar function, by its tree. -/
theorem scal_of_tree {E : Env} {S : STab} (Snd : Sound E) (ht : TabHom E S) (m : Nat) {f : FuncId} {sargs : List SV} {u : Value} {T : Tree SEnd} (hT : endT (evalCallS E S m f sargs SH.empty) = T) (ha : (dens sargs).all plainV = true) (hu : plainR u = true) (hh : Holds (fun x => x.den = .returned u) T) (w : World) :
    Calls E.P f (dens sargs).toArray w fun e w' => e = .returned u ∧ Below w.heap.size w w' := by
  obtain ⟨x, hx, he⟩ := hh
  rw [← hT] at hx
  obtain ⟨h1, hp⟩ := endT_pick hx
  cases x with
  | panicked v => cases he
  | returned v =>
    have hv : v.den = u := by simpa [SEnd.den] using he
    subst hv
    exact closed_tree Snd ht m f hp ha hu w
end Go.Ev
end
section
/-! Pieces of code that may panic. -/
namespace Go.Ev
open Go.RowKit
/-- What a panic bears: nothing with an address. -/
def plainI : Value → Bool
  | .iface _ v => plainV v
  | v => plainV v
def okE : SExit → Bool
  | .panic v => plainI v.den
  | _ => true
theorem plainI_eq {ρ : Emb} {v v' : Value} (h : plainI v = true) (r : VRel ρ v v') : v' = v := by
  by_cases hi : ∃ t u, v = .iface t u
  · obtain ⟨t, u, rfl⟩ := hi
    cases r with
    | iface t v v' hr => rw [plainV_eq h hr]
  · have h2 : plainV v = true := by
      cases v <;> first
        | exact h
        | exact absurd ⟨_, _, rfl⟩ hi
    exact plainV_eq h2 r
theorem ch_plain {ρ : Emb} {v : Value} {ch' : List PanicEntry} (h : plainI v = true) (r : ChRel ρ [⟨v, false, false⟩] ch') : ch' = [⟨v, false, false⟩] := by
  cases r with
  | cons v v' r g l l' hv t =>
    cases t
    rw [plainI_eq h hv]
variable {E : Env} {S : STab}
theorem code_preP (Snd : Sound E) : ∀ (k : Nat) (c : Code) (m : Nat) (a : BAct) (h : AH) (ch : List PanicEntry) (a1 : BAct) (h1 : AH), seqsOK (k + 1) c = true → plansIn c = true → evalC E m (preC (k + 1) c) a h = some (.panic ch, a1, h1) →
    ∀ (ρ : Emb) (b : Act) (w : World) (Q : Exit → Act → World → Prop), ARel ρ a b → WRel ρ h w → (∀ ρ1 b1 w1 ch', Step ρ w ρ1 w1 → ARel ρ1 a1 b1 → WRel ρ1 h1 w1 → ChRel ρ1 ch ch' → Q (.panic ch') b1 w1) → c.wp E.P Q b w
  | 0, c, m, a, h, ch, a1, h1, hs, hp, hr, ρ, b, w, Q, ar, wr, kk => by
    cases c <;> simp only [seqsOK, Bool.false_eq_true] at hs
    rename_i x y
    simp only [plansIn, Bool.and_eq_true] at hp
    exact wp_seq ((eval_simP Snd m).1 x a h ch a1 h1 hp.1 hr ρ b w _ ar wr kk)
  | k + 1, c, m, a, h, ch, a1, h1, hs, hp, hr, ρ, b, w, Q, ar, wr, kk => by
    cases c <;> simp only [seqsOK, Bool.false_eq_true] at hs
    rename_i x y
    simp only [plansIn, Bool.and_eq_true] at hp
    cases m with
    | zero => cases hr
    | succ m =>
      have hr : runSeq (evalC E m) (preC (k + 1) y) (evalC E m x a h) = some (.panic ch, a1, h1) := hr
      cases hx : evalC E m x a h with
      | none => rw [hx] at hr; cases hr
      | some p =>
        obtain ⟨ex, a', h'⟩ := p
        rw [hx] at hr
        by_cases hn : ex = .normal
        · subst hn
          have hr : evalC E m (preC (k + 1) y) a' h' = some (.panic ch, a1, h1) := hr
          refine wp_seq ((eval_sim Snd m).1 x a h .normal a' h' hp.1 hx (fun h => h) ρ b w _ ar wr fun ρ1 b1 w1 st ar1 wr1 => ?_)
          exact code_preP Snd k y m a' h' ch a1 h1 (by cases y <;> simp_all [seqsOK]) hp.2 hr ρ1 b1 w1 Q ar1 wr1 fun ρ2 b2 w2 ch' st2 ar2 wr2 cr => kk ρ2 b2 w2 ch' (st.trans st2) ar2 wr2 cr
        · have : (ex, a', h') = (.panic ch, a1, h1) := by
            unfold runSeq at hr
            cases ex <;> simp only [Option.some.injEq] at hr <;> first
              | exact hr
              | exact absurd rfl hn
          simp only [Prod.mk.injEq] at this
          obtain ⟨rfl, rfl, rfl⟩ := this
          exact wp_seq ((eval_simP Snd m).1 x a h ch a' h' hp.1 hx ρ b w _ ar wr fun ρ1 b1 w1 ch' st ar1 wr1 cr => kk ρ1 b1 w1 ch' st ar1 wr1 cr)
/-- A piece of code that may panic, told by a tree of what is kept. -/
theorem StL.pieceP (Snd : Sound E) (ht : TabHom E S) (m : Nat) {ρ0 : Emb} {w0 w : World} {n : Nat} {L : List (Nat × SV)} {O : List SObj} {b : Act} {c : Code} {V : SExit → VSd} {T : Tree View} {Q : Exit → Act → World → Prop}
    (hn : n ≤ 512) (hp : plansIn c = true)
    (hv : ∀ j, (evalS E S m c (mkA n L j) (mkH O)).mapO (viewD n V) = T)
    (st : StL ρ0 w0 n L O b w)
    (k : Holds (fun x => okE x.e = true ∧ ∀ b1 w1, StL ρ0 w0 n ((V x.e).s.zip x.vs) x.os b1 w1 → Q x.e.den b1 w1) T) : c.wp E.P Q b w := by
  obtain ⟨x, hx, hnp, k⟩ := k
  obtain ⟨j, ρ, ar, wr, fr⟩ := st
  have hvj := hv j
  rw [← hvj] at hx
  obtain ⟨r, hr, hvr⟩ := Tree.pick_mapO _ _ _ hx
  obtain ⟨hV, hvr⟩ := viewD_spec hvr
  have hxe := view_e hvr
  obtain ⟨e, a1, h1⟩ := r
  obtain ⟨he, _⟩ := evalS_sim ht m c _ _ e a1 h1 ar.wf hr
  have hxe : x.e = e := hxe
  have fin : ∀ ρ1 b1 w1, Step ρ w ρ1 w1 → ARel ρ1 a1.den b1 → WRel ρ1 h1.den w1 → Q e.den b1 w1 := fun ρ1 b1 w1 st1 ar1 wr1 => by
    rw [← hxe]
    refine k b1 w1 ?_
    have := StL.of_run hn hvr hV ar1 wr1 (fr.trans st1.frame)
    rw [hxe]
    exact this
  by_cases hpan : isPanic e.den
  · cases e with
    | panic v =>
      rw [hxe] at hnp
      refine (eval_simP Snd m).1 c _ _ _ a1.den h1.den hp he ρ b w _ ar wr fun ρ1 b1 w1 ch' st1 ar1 wr1 cr => ?_
      rw [ch_plain hnp cr]
      exact fin ρ1 b1 w1 st1 ar1 wr1
    | _ => exact hpan.elim
  · exact (eval_sim Snd m).1 c _ _ e.den a1.den h1.den hp he hpan ρ b w _ ar wr fin
theorem StL.preP (Snd : Sound E) (ht : TabHom E S) (m k : Nat) {ρ0 : Emb} {w0 w : World} {n : Nat} {L : List (Nat × SV)} {O : List SObj} {b : Act} {c : Code} {V : SExit → VSd} {T : Tree View} {Q : Exit → Act → World → Prop}
    (hn : n ≤ 512) (hp : plansIn c = true) (hs : seqsOK (k + 1) c = true)
    (hv : ∀ j, (evalS E S m (preC (k + 1) c) (mkA n L j) (mkH O)).mapO (viewD n V) = T)
    (st : StL ρ0 w0 n L O b w)
    (kk : Holds (fun x => okE x.e = true ∧ ∀ b1 w1, StL ρ0 w0 n ((V x.e).s.zip x.vs) x.os b1 w1 → Exit.then ((postC (k + 1) c).wp E.P Q) Q x.e.den b1 w1) T) : c.wp E.P Q b w := by
  obtain ⟨x, hx, hnp, kk⟩ := kk
  obtain ⟨j, ρ, ar, wr, fr⟩ := st
  have hvj := hv j
  rw [← hvj] at hx
  obtain ⟨r, hr, hvr⟩ := Tree.pick_mapO _ _ _ hx
  obtain ⟨hV, hvr⟩ := viewD_spec hvr
  have hxe := view_e hvr
  obtain ⟨e, a1, h1⟩ := r
  obtain ⟨he, _⟩ := evalS_sim ht m _ _ _ e a1 h1 ar.wf hr
  have hxe : x.e = e := hxe
  have fin : ∀ ρ1 b1 w1, Step ρ w ρ1 w1 → ARel ρ1 a1.den b1 → WRel ρ1 h1.den w1 → Exit.then ((postC (k + 1) c).wp E.P Q) Q e.den b1 w1 := fun ρ1 b1 w1 st1 ar1 wr1 => by
    rw [← hxe]
    refine kk b1 w1 ?_
    have := StL.of_run hn hvr hV ar1 wr1 (fr.trans st1.frame)
    rw [hxe]
    exact this
  by_cases hpan : isPanic e.den
  · cases e with
    | panic v =>
      rw [hxe] at hnp
      refine code_preP Snd k c m _ _ _ a1.den h1.den hs hp he ρ b w _ ar wr fun ρ1 b1 w1 ch' st1 ar1 wr1 cr => ?_
      rw [ch_plain hnp cr]
      exact fin ρ1 b1 w1 st1 ar1 wr1
    | _ => exact hpan.elim
  · exact code_pre Snd k c m _ _ e.den a1.den h1.den hs hp he hpan ρ b w _ ar wr fin
/-- A panic where nothing is deferred. -/
theorem StL.finishP {ρ0 : Emb} {w0 w : World} {n : Nat} {L : List (Nat × SV)} {O : List SObj} {b : Act} {fn : Func} (st : StL ρ0 w0 n L O b w) {R : Ending → World → Prop} {ch : List PanicEntry}
    (k : ∀ ρ, WRel ρ (mkH O).den w → Frame1 ρ0 w0 ρ w → R (.panicked ch) w) : Leaves E.P fn b.tmps R b.defers (.panicking ch) w := by
  obtain ⟨j, ρ, ar, wr, fr⟩ := st
  have hd := ar.defers
  rw [mkA_defers] at hd
  have hb : b.defers = [] := by
    generalize b.defers = bd at hd
    cases hd
    rfl
  rw [hb]
  exact k ρ wr fr
end Go.Ev
end
section
/-! States of which the first objects are those that came in. -/
namespace Go.Ev
open Go.RowKit
def pinned (np : Nat) (ρ0 ρ : Emb) : Prop := ∀ i, i < np → ρ i = ρ0 i ∨ ρ i = .dead
def startsId : Nat → Nat → List VK → Bool
  | 0, _, _ => true
  | np + 1, i, .id j :: l => Nat.beq j i && startsId np (Nat.succ i) l
  | _ + 1, _, _ => false
def StM (np : Nat) (ρ0 : Emb) (w0 : World) (n : Nat) (L : List (Nat × SV)) (O : List SObj) (b : Act) (w : World) : Prop :=
  ∃ j ρ, ARel ρ (mkA n L j).den b ∧ WRel ρ (mkH O).den w ∧ Frame1 ρ0 w0 ρ w ∧ pinned np ρ0 ρ
theorem StM.toL {np : Nat} {ρ0 : Emb} {w0 : World} {n : Nat} {L : List (Nat × SV)} {O : List SObj} {b : Act} {w : World} (st : StM np ρ0 w0 n L O b w) : StL ρ0 w0 n L O b w :=
  let ⟨j, ρ, h1, h2, h3, _⟩ := st
  ⟨j, ρ, h1, h2, h3⟩
theorem StM.conv {np : Nat} {ρ0 : Emb} {w0 w : World} {n : Nat} {s : List Nat} {vs us : List SV} {O O' : List SObj} {b : Act} (st : StM np ρ0 w0 n (s.zip vs) O b w) (hv : dens vs = dens us) (ho : O.map SObj.den = O'.map SObj.den) : StM np ρ0 w0 n (s.zip us) O' b w := by
  obtain ⟨j, ρ, ar, wr, fr, pn⟩ := st
  refine ⟨j, ρ, ?_, ?_, fr, pn⟩
  · have : (mkA n (s.zip us) j).den = (mkA n (s.zip vs) j).den := by
      unfold mkA
      rw [start_den, start_den]
      congr 1
      simp only [dens_map, List.map_map]
      refine List.map_congr_left fun t _ => ?_
      have := lookL_den s vs us hv t
      simp only [Function.comp, slotOf]
      cases h1 : lookL (s.zip vs) t <;> cases h2 : lookL (s.zip us) t <;> rw [h1, h2] at this <;> simp_all
    rw [this]
    exact ar
  · have hl : O'.length = O.length := by
      have := congrArg List.length ho
      simpa using this.symm
    rw [mkH_den, ← ho, hl, ← mkH_den]
    exact wr
theorem keptOf_starts (a : SAct) (h : SH) : ∀ (np i : Nat) (l : List VK), startsId np i l = true → ∀ k, k < np → (keptOf a h l)[k]? = some (i + k)
  | 0, _, _, _, k, hk => by omega
  | np + 1, i, [], hs, k, hk => by cases hs
  | np + 1, i, .id j :: l, hs, k, hk => by
    simp only [startsId, Bool.and_eq_true] at hs
    obtain rfl := Nat.eq_of_beq_eq_true hs.1
    show (j :: keptOf a h l)[k]? = _
    cases k with
    | zero => rfl
    | succ k =>
      rw [List.getElem?_cons_succ, keptOf_starts a h np (j + 1) l hs.2 k (by omega)]
      congr 1
      omega
  | np + 1, i, .of _ :: l, hs, k, hk => by cases hs
  | np + 1, i, .fld _ _ :: l, hs, k, hk => by cases hs
  | np + 1, i, .opt _ _ :: l, hs, k, hk => by cases hs
theorem pinned_ren {np : Nat} {ρ0 ρ ρ1 : Emb} {a : SAct} {h : SH} {l : List VK} (h0 : ∀ i, i < np → ρ0 i ≠ .free) (pn : pinned np ρ0 ρ) (ex : Ext ρ ρ1) (hs : startsId np 0 l = true) : pinned np ρ0 (renEmb (keptOf a h l) ρ1) := by
  intro i hi
  have hk := keptOf_starts a h np 0 l hs i hi
  rw [Nat.zero_add] at hk
  have : renEmb (keptOf a h l) ρ1 i = ρ1 i := by unfold renEmb; rw [hk]
  rw [this]
  rcases pn i hi with h1 | h1
  · rcases ex i (by rw [h1]; exact h0 i hi) with h2 | h2
    · exact .inl (h2.trans h1)
    · exact .inr h2
  · rcases ex i (by rw [h1]; simp) with h2 | h2
    · exact .inr (h2.trans h1)
    · exact .inr h2
variable {E : Env} {S : STab}
theorem StM.pieceP {np : Nat} (Snd : Sound E) (ht : TabHom E S) (m : Nat) {ρ0 : Emb} {w0 w : World} (h0 : ∀ i, i < np → ρ0 i ≠ .free) {n : Nat} {L : List (Nat × SV)} {O : List SObj} {b : Act} {c : Code} {V : SExit → VSd} {T : Tree View} {Q : Exit → Act → World → Prop}
    (hn : n ≤ 512) (hp : plansIn c = true)
    (hv : ∀ j, (evalS E S m c (mkA n L j) (mkH O)).mapO (viewD n V) = T)
    (st : StM np ρ0 w0 n L O b w)
    (k : Holds (fun x => okE x.e = true ∧ ∀ b1 w1, StL ρ0 w0 n ((V x.e).s.zip x.vs) x.os b1 w1 → (startsId np 0 (V x.e).k = true → StM np ρ0 w0 n ((V x.e).s.zip x.vs) x.os b1 w1) → Q x.e.den b1 w1) T) : c.wp E.P Q b w := by
  obtain ⟨x, hx, hnp, k⟩ := k
  obtain ⟨j, ρ, ar, wr, fr, pn⟩ := st
  have hvj := hv j
  rw [← hvj] at hx
  obtain ⟨r, hr, hvr⟩ := Tree.pick_mapO _ _ _ hx
  obtain ⟨hV, hvr⟩ := viewD_spec hvr
  have hxe := view_e hvr
  obtain ⟨e, a1, h1⟩ := r
  obtain ⟨he, _⟩ := evalS_sim ht m c _ _ e a1 h1 ar.wf hr
  have hxe : x.e = e := hxe
  have fin : ∀ ρ1 b1 w1, Step ρ w ρ1 w1 → ARel ρ1 a1.den b1 → WRel ρ1 h1.den w1 → Q e.den b1 w1 := fun ρ1 b1 w1 st1 ar1 wr1 => by
    rw [← hxe]
    obtain ⟨j1, k1, k2, k3⟩ := StL.of_run2 hn hvr hV ar1 wr1 (fr.trans st1.frame)
    refine k b1 w1 ?_ fun hs => ?_
    · rw [hxe]
      exact ⟨j1, _, k1, k2, k3⟩
    · rw [hxe] at hs ⊢
      exact ⟨j1, _, k1, k2, k3, pinned_ren h0 pn st1.ext hs⟩
  by_cases hpan : isPanic e.den
  · cases e with
    | panic v =>
      rw [hxe] at hnp
      refine (eval_simP Snd m).1 c _ _ _ a1.den h1.den hp he ρ b w _ ar wr fun ρ1 b1 w1 ch' st1 ar1 wr1 cr => ?_
      rw [ch_plain hnp cr]
      exact fin ρ1 b1 w1 st1 ar1 wr1
    | _ => exact hpan.elim
  · exact (eval_sim Snd m).1 c _ _ e.den a1.den h1.den hp he hpan ρ b w _ ar wr fin
theorem StM.preP {np : Nat} (Snd : Sound E) (ht : TabHom E S) (m k : Nat) {ρ0 : Emb} {w0 w : World} (h0 : ∀ i, i < np → ρ0 i ≠ .free) {n : Nat} {L : List (Nat × SV)} {O : List SObj} {b : Act} {c : Code} {V : SExit → VSd} {T : Tree View} {Q : Exit → Act → World → Prop}
    (hn : n ≤ 512) (hp : plansIn c = true) (hs : seqsOK (k + 1) c = true)
    (hv : ∀ j, (evalS E S m (preC (k + 1) c) (mkA n L j) (mkH O)).mapO (viewD n V) = T)
    (st : StM np ρ0 w0 n L O b w)
    (kk : Holds (fun x => okE x.e = true ∧ ∀ b1 w1, StL ρ0 w0 n ((V x.e).s.zip x.vs) x.os b1 w1 → (startsId np 0 (V x.e).k = true → StM np ρ0 w0 n ((V x.e).s.zip x.vs) x.os b1 w1) → Exit.then ((postC (k + 1) c).wp E.P Q) Q x.e.den b1 w1) T) : c.wp E.P Q b w := by
  obtain ⟨x, hx, hnp, kk⟩ := kk
  obtain ⟨j, ρ, ar, wr, fr, pn⟩ := st
  have hvj := hv j
  rw [← hvj] at hx
  obtain ⟨r, hr, hvr⟩ := Tree.pick_mapO _ _ _ hx
  obtain ⟨hV, hvr⟩ := viewD_spec hvr
  have hxe := view_e hvr
  obtain ⟨e, a1, h1⟩ := r
  obtain ⟨he, _⟩ := evalS_sim ht m _ _ _ e a1 h1 ar.wf hr
  have hxe : x.e = e := hxe
  have fin : ∀ ρ1 b1 w1, Step ρ w ρ1 w1 → ARel ρ1 a1.den b1 → WRel ρ1 h1.den w1 → Exit.then ((postC (k + 1) c).wp E.P Q) Q e.den b1 w1 := fun ρ1 b1 w1 st1 ar1 wr1 => by
    rw [← hxe]
    obtain ⟨j1, k1, k2, k3⟩ := StL.of_run2 hn hvr hV ar1 wr1 (fr.trans st1.frame)
    refine kk b1 w1 ?_ fun hs => ?_
    · rw [hxe]
      exact ⟨j1, _, k1, k2, k3⟩
    · rw [hxe] at hs ⊢
      exact ⟨j1, _, k1, k2, k3, pinned_ren h0 pn st1.ext hs⟩
  by_cases hpan : isPanic e.den
  · cases e with
    | panic v =>
      rw [hxe] at hnp
      refine code_preP Snd k c m _ _ _ a1.den h1.den hs hp he ρ b w _ ar wr fun ρ1 b1 w1 ch' st1 ar1 wr1 cr => ?_
      rw [ch_plain hnp cr]
      exact fin ρ1 b1 w1 st1 ar1 wr1
    | _ => exact hpan.elim
  · exact code_pre Snd k c m _ _ e.den a1.den h1.den hs hp he hpan ρ b w _ ar wr fin
theorem calls_StM (np : Nat) {f : FuncId} {fn : Func} {c : Code} (hf : E.P.funcs[f]? = some fn) (hb : fn.body = some c) {n : Nat} (hnn : fn.ntmps = n) (hn : n ≤ 512) {sargs : List SV} (hl : sargs.length ≤ n) {O : List SObj} {ρ0 : Emb} {w : World} {args' : Array Value}
    (wr : WRel ρ0 (mkH O).den w) (ra : VsRel ρ0 (dens sargs) args'.toList) {R : Ending → World → Prop} (k : ∀ b, StM np ρ0 w n (argL sargs) O b w → c.wp E.P (bodyPostD E.P fn R) b w) : Calls E.P f args' w R := by
  subst hnn
  refine calls_of_wp_defers hf hb (k _ ⟨fun _ => undef, ρ0, ?_, wr, Frame1.refl _ _, fun _ _ => .inl rfl⟩)
  have ar := ARel.start hn ra (by rw [dens_length]; exact hl)
  refine ⟨mkA_wf hn _ _, by rw [mkA_n]; exact ar.size.trans (BAct.n_start _ _), fun t => ?_, by rw [mkA_defers]; exact .nil⟩
  have := ar.slot t
  rw [BAct.slot_start hn (by rw [dens_length]; exact hl)] at this
  rw [mkA_slot hn]
  by_cases ht : t < fn.ntmps
  · rw [if_pos ht]
    unfold slotOf
    rw [lookL_range, if_pos (Nat.zero_le _), Nat.sub_zero]
    rw [dens_get] at this
    cases hg : sargs[t]? with
    | none => rw [hg] at this; exact this
    | some v => rw [hg] at this; exact this
  · rw [if_neg ht]
    rw [List.getElem?_eq_none (by rw [dens_length]; omega)] at this
    exact this
theorem StM.finish {np : Nat} {ρ0 : Emb} {w0 w : World} {n : Nat} {L : List (Nat × SV)} {O : List SObj} {b : Act} {fn : Func} {vs : List SV} (hres : ∀ j, ((sResults E.P (mkA n L j) fn.results.toList).run 0 (mkH O)) = .leaf (vs, mkH O)) (st : StM np ρ0 w0 n L O b w) {R : Ending → World → Prop}
    (k : ∀ ρ v', VRel ρ (packedS vs).den v' → WRel ρ (mkH O).den w → Frame1 ρ0 w0 ρ w → pinned np ρ0 ρ → R (.returned v') w) : Leaves E.P fn b.tmps R b.defers .returning w := by
  obtain ⟨j, ρ, ar, wr, fr, pn⟩ := st
  have hd := ar.defers
  rw [mkA_defers] at hd
  have hb : b.defers = [] := by
    generalize b.defers = bd at hd
    cases hd
    rfl
  rw [hb]
  have hp : (((sResults E.P (mkA n L j) fn.results.toList).run 0 (mkH O))).pick = some (vs, mkH O) := by rw [hres j]; rfl
  obtain ⟨us, e1, e2⟩ := run_hom (sResults_hom (mkA n L j) fn.results.toList) 0 (mkH O) vs (mkH O) hp
  subst e2
  obtain ⟨_, v', e3, e4⟩ := results_rel (P := E.P) wr ar fn e1
  rw [packed_den] at e4
  exact ⟨v', e3, k ρ v' e4 wr fr pn⟩
/-- Where a block is out of sight. -/
theorem WRel.but {ρ : Emb} {h : AH} {w w' : World} (r : WRel ρ h w) (hb : ∀ i g, ρ i = .img g → w'.heap[g.b]? = w.heap[g.b]?) : WRel ρ h w' := by
  have keep : ∀ (o : AObj) (g : Img) (i : Nat), ρ i = .img g → ObjRel ρ w o g → ObjRel ρ w' o g := by
    intro o g i hi x
    have hb := hb i g hi
    cases o with
    | dead => exact x
    | amap es => obtain ⟨x1, es', clk, x2, x3⟩ := x; exact ⟨x1, es', clk, by rw [hb]; exact x2, x3⟩
    | cells c rw =>
      obtain ⟨x1, c', e, fz, x2, x3, x4, x5, x6⟩ := x
      refine ⟨x1, c', e, fz, by rw [hb]; exact x2, x3, x4, x5, fun hrw off hoff => ?_⟩
      have := x6 hrw off hoff
      unfold World.frozen? at this ⊢
      simp only at this ⊢
      rw [hb]
      exact this
  refine ⟨r.ok, fun i => ?_, r.inj⟩
  have := r.obj i
  cases hg : h.get i with
  | none => rw [hg] at this; exact this
  | some o =>
    rw [hg] at this
    cases o with
    | dead => exact this
    | amap es => exact this.elim (fun ⟨g, h1, h2⟩ => .inl ⟨g, h1, keep _ g i h1 h2⟩) .inr
    | cells c rw => exact this.elim (fun ⟨g, h1, h2⟩ => .inl ⟨g, h1, keep _ g i h1 h2⟩) .inr
end Go.Ev
end
section
/-! Ops of scripts, as data. -/
namespace Go.Ev
open Go.RowKit
structure OpD where
  k : Int
  s : Int
  b : ByteArray
  n : Int
section
noncomputable section
abbrev opFs (k s : Nat → Int) (b : Nat → ByteArray) (n : Nat → Int) : List SF := [.int .i64 k, .int .i64 s, .str b, .int .i64 n]
abbrev opsL (len : Nat) (k s : Nat → Int) (b : Nat → ByteArray) (n : Nat → Int) : List OpD := (List.range len).map fun i => ⟨k i, s i, b i, n i⟩
abbrev opsO (len : Nat) (k s : Nat → Int) (b : Nat → ByteArray) (n : Nat → Int) : SObj := .arr ⟨false, len⟩ (opFs k s b n) false
/-- The setup of a script. -/
structure SetD where
  gx : Int
  gxf : Bool
  gy : Int
  gyf : Bool
  dt : Int
  dtf : Bool
  most : Int
  rounds : Int
  sess : Int
  staged : Int
  queue : Int
abbrev SetD.sv (s : SetD) : List SV := [.int .i64 false s.gx, .bool false s.gxf, .int .i64 false s.gy, .bool false s.gyf, .int .i64 false s.dt, .bool false s.dtf, .int .i64 false s.most, .int .i64 false s.rounds, .int .i64 false s.sess, .int .i64 false s.staged, .int .i64 false s.queue]
end
end
theorem opsL_length (len : Nat) (k s : Nat → Int) (b : Nat → ByteArray) (n : Nat → Int) : (opsL len k s b n).length = len := by simp
theorem opsL_drop {len : Nat} {k s : Nat → Int} {b : Nat → ByteArray} {n : Nat → Int} {i : Nat} (h : i < len) : (opsL len k s b n).drop i = ⟨k i, s i, b i, n i⟩ :: (opsL len k s b n).drop (i + 1) := by
  have hl : i < (opsL len k s b n).length := by rw [opsL_length]; exact h
  rw [List.drop_eq_getElem_cons hl]
  congr 1
  simp
/-- How many bytes: too many? -/
def lensR (acc : Int) : List OpD → Bool
  | [] => false
  | o :: l => if IntKind.i64.wrap (65536 - acc) < (o.b.size : Int) then true else lensR (IntKind.i64.wrap (acc + o.b.size)) l
/-- The first error. -/
def firstE (err : OpD → Int) : List OpD → Int
  | [] => 0
  | o :: l => if err o = 0 then firstE err l else err o
/-- history.Check, from what the setup and each op come to. -/
def checkR (cs : SetD → Int) (er : OpD → Int) (g : SetD) (ops : List OpD) : Int := if cs g = 0 then (if 400 < ops.length then 6 else if lensR 0 ops = true then 6 else firstE er ops) else cs g
/-- The sum of the lengths, as it is reckoned. -/
def sumW (acc : Int) : List OpD → Int
  | [] => acc
  | o :: l => sumW (IntKind.i64.wrap (acc + o.b.size)) l
/-- bagatelleref10.Check -/
def checkQ (cs : SetD → Int) (er : OpD → Int) (g : SetD) (ops : List OpD) : Int := if cs g = 0 then (if 400 < ops.length ∨ 65536 < sumW 0 ops then 6 else firstE er ops) else cs g
/-- bagatellelaw10.long -/
def longQ (ops : List OpD) : Bool := (60 < ops.length ∨ 3000 < sumW 0 ops) ∧ ops.length ≤ 400 ∨ 450 < ops.length
theorem vok (a r x : VSp) (ha : a.k.Nodup ∧ a.k.length < most) (hr : r.k.Nodup ∧ r.k.length < most) (hx : x.k.Nodup ∧ x.k.length < most) : VOK (vsel a r x) := by
  intro e
  cases e <;> first
    | exact ha
    | exact hr
    | exact hx
theorem wrap_succ {i len : Nat} (h : i < len) (hl : len ≤ 70368744177664) : IntKind.i64.wrap ((i : Int) + 1) = ((i + 1 : Nat) : Int) := wrap64_small (n := i + 1) (by omega)
/-- Equal ops, one by one. -/
def eqOp (o p : OpD) : Bool := o.k == p.k && (o.s == p.s && (o.b == p.b && (o.n == p.n && true)))
def sameL : List OpD → List OpD → Bool
  | [], [] => true
  | o :: l, p :: m => eqOp o p && sameL l m
  | _, _ => false
theorem sameL_length : ∀ {l m : List OpD}, l.length ≠ m.length → sameL l m = false
  | [], [], h => absurd rfl h
  | [], _ :: _, _ => rfl
  | _ :: _, [], _ => rfl
  | o :: l, p :: m, h => by
    simp only [sameL, sameL_length (l := l) (m := m) (by simpa using h), Bool.and_false]
def eqSet (g h : SetD) : Bool := g.gx == h.gx && (g.gxf == h.gxf && (g.gy == h.gy && (g.gyf == h.gyf && (g.dt == h.dt && (g.dtf == h.dtf && (g.most == h.most && (g.rounds == h.rounds && (g.sess == h.sess && (g.staged == h.staged && (g.queue == h.queue && true))))))))))
def sameS (g : SetD) (l : List OpD) (h : SetD) (m : List OpD) : Bool := eqSet g h && sameL l m
end Go.Ev
end
section
namespace Go.Ev
open Go.RowKit
section defs
noncomputable section
abbrev noBytes : ByteArray := ⟨#[]⟩
/-- What is told over values, by what is told over open terms. -/
def specOf (s : List SV → Option SV) (args : List Value) : Option Value :=
  match s (args.map ofV) with
  | some v => some v.den
  | none => none
def resInt (t : Tree SEnd) : Int :=
  match t.pick with
  | some (.returned (.int _ _ n)) => n
  | _ => 0
def resBool (t : Tree SEnd) : Bool :=
  match t.pick with
  | some (.returned (.bool _ b)) => b
  | _ => false
/-- A call with a slice of known length at its end. -/
def rowA (size : Nat) (s : List SV → List SV → Option SV) (args : List Value) (_ : Nat) : AM Value :=
  match args.getLast? with
  | some (.slice (some a) n c) => bif okAt a && Nat.beq c size then
      .get a.block fun o => readA o a.off (Nat.mul n size) fun l => bif l.all plain1 && args.dropLast.all plainV then
        (match s (args.dropLast.map ofV) (l.map ofV1) with
          | some v => bif plainR v.den then .ret v.den else .fail
          | none => .fail) else .fail
    else .fail
  | _ => .fail
def rowSym (size : Nat) (s : List SV → List SV → Option SV) (args : List SV) (_ : Nat) : SM SV :=
  match args.getLast? with
  | some (.sl b off n c) => bif Nat.beq c size then
      .get b fun o => rowS o off n size fun r => match r with
        | .lits l => bif (dens l).all plain1 && (dens args.dropLast).all plainV then
            (match s args.dropLast l with
              | some v => bif plainR v.den then .ret v else .fail
              | none => .fail) else .fail
        | .arr _ _ => .fail
    else .fail
  | _ => .fail
end
end defs
theorem ofV_map (l : List Value) : dens (l.map ofV) = l := by
  rw [dens_map, List.map_map]
  conv => rhs; rw [← List.map_id l]
  exact List.map_congr_left fun v _ => ofV_den v
theorem scal_tab' {P : Program} {f : FuncId} {s : List SV → Option SV} (h : ∀ sargs v, s sargs = some v → (dens sargs).all plainV = true ∧ plainR v.den = true ∧ ∀ w, Calls P f (dens sargs).toArray w fun e w' => e = .returned v.den ∧ Below w.heap.size w w') : TabOK P f (scalA (specOf s)) := by
  refine scal_tab fun args v hs => ?_
  unfold specOf at hs
  cases hc : s (args.map ofV) with
  | none => rw [hc] at hs; cases hs
  | some u =>
    rw [hc] at hs
    simp only [Option.some.injEq] at hs
    subst hs
    have := h _ _ hc
    rw [ofV_map] at this
    exact this
theorem resInt_eq {t : Tree SEnd} {k : IntKind} (h : Holds (fun x => ∃ l n, x = .returned (.int k l n)) t) : Holds (fun x => x.den = .returned (.int k (resInt t))) t := by
  obtain ⟨x, hx, l, n, rfl⟩ := h
  exact ⟨_, hx, by unfold resInt; rw [hx]; rfl⟩
theorem resBool_eq {t : Tree SEnd} (h : Holds (fun x => ∃ l b, x = .returned (.bool l b)) t) : Holds (fun x => x.den = .returned (.bool (resBool t))) t := by
  obtain ⟨x, hx, l, n, rfl⟩ := h
  exact ⟨_, hx, by unfold resBool; rw [hx]; rfl⟩

theorem getLast_dens (l : List SV) : (dens l).getLast? = l.getLast?.map SV.den := by rw [dens_map, List.getLast?_map]
theorem dropLast_dens (l : List SV) : (dens l).dropLast = dens l.dropLast := by rw [dens_map, dens_map, List.map_dropLast]
/-- The entry over open terms says what the entry over values says, if flags do not count. -/
theorem row_hom {size : Nat} {s : List SV → List SV → Option SV} (h : ∀ a l v, s a l = some v → ∃ u, s ((dens a).map ofV) ((dens l).map ofV1) = some u ∧ u.den = v.den) : ∀ args id, Hom HV (rowSym size s args id) (rowA size s (dens args) id) := by
  intro args id
  unfold rowSym rowA
  rw [getLast_dens]
  cases hl : args.getLast? with
  | none => exact .fail _
  | some x =>
    cases x <;> first
      | exact .fail _
      | skip
    rename_i b off n c
    simp only [Option.map_some, SV.den, okAt, Option.isNone_none, Bool.true_and]
    cases Nat.beq c size with
    | false => exact .fail _
    | true =>
      simp only [cond_true]
      refine .get _ _ _ fun o => rowS_hom (fun r hr => ?_) o off
      cases r with
      | arr m fs => exact .fail _
      | lits l =>
        simp only [rowDen, dropLast_dens]
        cases hc : ((dens l).all plain1 && (dens args.dropLast).all plainV) with
        | false => exact .fail _
        | true =>
          simp only [cond_true]
          cases hs : s args.dropLast l with
          | none => exact .fail _
          | some v =>
            obtain ⟨u, e1, e2⟩ := h _ _ _ hs
            simp only [e1, e2]
            cases plainR v.den with
            | false => exact .fail _
            | true => exact .ret _ _ rfl
theorem plainVs_split {ρ ρ2 : Emb} : ∀ (l : List Value) (x : Value) (l' : List Value), VsRel ρ (l ++ [x]) l' → l.all plainV = true → (∀ v', VRel ρ x v' → VRel ρ2 x v') → VsRel ρ2 (l ++ [x]) l'
  | [], x, l', h, _, k => by
    cases h with
    | cons v v' a a' hv ht =>
      cases ht
      exact .cons _ _ _ _ (k _ hv) .nil
  | y :: l, x, l', h, hp, k => by
    simp only [List.all_cons, Bool.and_eq_true] at hp
    cases h with
    | cons v v' a a' hv ht =>
      refine .cons _ _ _ _ ?_ (plainVs_split l x _ ht hp.2 k)
      rw [plainV_eq hp.1 hv]
      exact plainV_rel hp.1
theorem VsRel.last {ρ : Emb} {l : List Value} {x : Value} {l' : List Value} (h : VsRel ρ (l ++ [x]) l') : ∃ a v', l' = a ++ [v'] ∧ VsRel ρ l a ∧ VRel ρ x v' := by
  induction l generalizing l' with
  | nil =>
    cases h with
    | cons v v' a a' hv ht => cases ht; exact ⟨[], v', rfl, .nil, hv⟩
  | cons y l ih =>
    cases h with
    | cons v v' a a' hv ht =>
      obtain ⟨a2, u, rfl, h1, h2⟩ := ih ht
      exact ⟨v' :: a2, u, rfl, .cons _ _ _ _ hv h1, h2⟩
theorem VsRel.snoc {ρ : Emb} {l l' : List Value} {x x' : Value} (h : VsRel ρ l l') (hx : VRel ρ x x') : VsRel ρ (l ++ [x]) (l' ++ [x']) := h.append (.one hx)
/-- The same, for the table. -/
theorem row_tab {P : Program} {f : FuncId} {size : Nat} {s : List SV → List SV → Option SV}
    (h : ∀ a l n v, s a l = some v → l.length = n * size → (dens l).all plain1 = true → (dens a).all plainV = true → ∀ ρ w args', (∀ i g, ρ i = .img g → g.rw = false) → WRel ρ (mkH [.cells l false]).den w → VsRel ρ (dens (a ++ [.sl 0 (.c 0) ⟨true, n⟩ size])) (Array.toList args') →
      Calls P f args' w fun e w' => e = .returned v.den ∧ Below w.heap.size w w') : TabOK P f (rowA size s) := by
  intro ρ hh w args args' v h1 wr ra e
  obtain ⟨hn, e⟩ := tabF_some e
  unfold rowA at e
  cases hl : args.getLast? with
  | none => rw [hl] at e; cases e
  | some x =>
    rw [hl] at e
    split at e
    · rename_i _ a n c hx
      simp only [Option.some.injEq] at hx
      subst hx
      cases hok : (okAt a && Nat.beq c size) with
      | false => rw [hok] at e; cases e
      | true =>
        rw [hok] at e
        simp only [cond_true, AM.run] at e
        simp only [Bool.and_eq_true] at hok
        obtain rfl := Nat.eq_of_beq_eq_true hok.2
        obtain ⟨ab, ao, asp⟩ := a
        have hsp : asp = none := by have := hok.1; simpa [okAt] using this
        subst hsp
        have wrm := wr.more hn
        cases hg : (hh.more 1).get ab with
        | none => simp only [hg] at e; cases e
        | some o =>
          simp only [hg] at e
          cases o with
          | amap _ => cases e
          | dead => cases e
          | cells d rw0 =>
            simp only [readA] at e
            cases ht : takeCells d ao (Nat.mul n c) with
            | none => rw [ht] at e; cases e
            | some l =>
              rw [ht] at e
              simp only at e
              cases hp : (l.all plain1 && args.dropLast.all plainV) with
              | false => rw [hp] at e; cases e
              | true =>
                rw [hp] at e
                simp only [cond_true] at e
                simp only [Bool.and_eq_true] at hp
                cases hs : s (args.dropLast.map ofV) (l.map ofV1) with
                | none => rw [hs] at e; cases e
                | some u =>
                  rw [hs] at e
                  simp only at e
                  cases hpr : plainR u.den with
                  | false => rw [hpr] at e; cases e
                  | true =>
                    rw [hpr] at e
                    simp only [cond_true, AM.run, Option.some.injEq, Prod.mk.injEq] at e
                    obtain ⟨rfl, rfl⟩ := e
                    have hll : l.length = n * c := by
                      unfold takeCells at ht
                      cases hb : Nat.ble (Nat.add ao (Nat.mul n c)) d.length with
                      | false => rw [hb] at ht; cases ht
                      | true =>
                        rw [hb] at ht
                        simp only [cond_true, Option.some.injEq] at ht
                        have h3 : ao + n * c ≤ d.length := nat_ble hb
                        have h4 : Nat.mul n c = n * c := rfl
                        rw [← ht, List.length_take, List.length_drop, h4]
                        omega
                    have ht' : takeCells d ao l.length = some l := by rw [hll]; exact ht
                    have hsplit : args = args.dropLast ++ [.slice (some ⟨ab, ao, none⟩) n c] := by
                      have hne : args ≠ [] := by intro h0; rw [h0] at hl; cases hl
                      rw [List.getLast?_eq_some_getLast hne, Option.some.injEq] at hl
                      rw [← hl]
                      exact (List.dropLast_concat_getLast hne).symm
                    rw [hsplit] at ra
                    obtain ⟨ta, tv, e1, e2, e3⟩ := ra.last
                    have wc := sub_WRel wrm hg ht' hp.1 (o := .cells (l.map ofV1) false) (by simp only [SObj.den, ofV1s_den])
                    have rs := sub_slice wrm hg e3
                    have ra2 : VsRel (subEmb ρ ab ao) (dens (args.dropLast.map ofV ++ [.sl 0 (.c 0) ⟨true, n⟩ c])) args'.toList := by
                      rw [dens_append, ofV_map, e1]
                      refine VsRel.append ?_ (.one rs)
                      rw [plainVs_eq _ _ hp.2 e2]
                      exact plainVs_rel _ hp.2
                    refine Calls.mono (h _ _ n u hs (by simpa using hll) (by rw [ofV1s_den]; exact hp.1) (by rw [ofV_map]; exact hp.2) _ w args' (subEmb_ro ρ ab ao) wc ra2) ?_
                    rintro e w' ⟨rfl, hb⟩
                    exact CallEnd.of_below wr hn hpr hb
    · cases e

/-- A call that reads a few objects, told by a tree. -/
theorem call_of_tree {E : Env} {S : STab} (Snd : Sound E) (ht : TabHom E S) (m : Nat) {f : FuncId} {sargs sargs' : List SV} {O O' : List SObj} {T : Tree SEnd} {ρ : Emb} {w : World} {args' : Array Value} {u : Value}
    (hT : endT (evalCallS E S m f sargs (mkH O)) = T) (hro : ∀ i g, ρ i = .img g → g.rw = false) (hh : Holds (fun x => x.den = .returned u) T) (hu : plainR u = true)
    (wr : WRel ρ (mkH O').den w) (ra : VsRel ρ (dens sargs') args'.toList) (ho : O'.map SObj.den = O.map SObj.den := by rfl) (hs : dens sargs' = dens sargs := by rfl) :
    Calls E.P f args' w fun e w' => e = .returned u ∧ Below w.heap.size w w' := by
  obtain ⟨x, hx, he⟩ := hh
  rw [← hT] at hx
  obtain ⟨h1, hp⟩ := endT_pick hx
  cases x with
  | panicked v => cases he
  | returned v =>
    have hv : v.den = u := by simpa [SEnd.den] using he
    subst hv
    have ec := evalCallS_sim ht m hp
    have hl : O'.length = O.length := by
      have := congrArg List.length ho
      simpa using this
    rw [mkH_den, ho, hl, ← mkH_den] at wr
    rw [hs] at ra
    refine Calls.mono (evalCall_sound Snd m ec wr ra) ?_
    rintro e w' ⟨v', ρ1, rfl, rv, _, st⟩
    exact ⟨by rw [plainR_eq hu rv], below_of_ro hro st.frame⟩
end Go.Ev
end
section
namespace Go.Ev
open Go.RowKit
section defs
noncomputable section
/-- The ops that cells are. -/
def decOps : Nat → List Value → Option (List OpD)
  | 0, [] => some []
  | n + 1, .int .i64 k :: .int .i64 s :: .string b :: .int .i64 m :: l => match decOps n l with
    | some r => some (⟨k, s, b, m⟩ :: r)
    | none => none
  | _, _ => none
abbrev slO (len : Nat) : SV := .sl 0 (.c 0) ⟨false, len⟩ 4
abbrev nilO : SV := .raw (.slice none 0 0)
abbrev scrS (g : SetD) (o : SV) : SV := .agg (g.sv ++ [o])
/-- A script's setup and its slice of ops. -/
def scrOf : Value → Option (SetD × Value)
  | .agg cs => match cs.toList with
    | [.int .i64 a, .bool af, .int .i64 b, .bool bf, .int .i64 c, .bool cf, .int .i64 m, .int .i64 r, .int .i64 s, .int .i64 t, .int .i64 q, o] => some (⟨a, af, b, bf, c, cf, m, r, s, t, q⟩, o)
    | _ => none
  | _ => none
def opsA (o : Value) (k : List OpD → AM Value) : AM Value :=
  match o with
  | .slice none _ _ => k []
  | .slice (some a) n c => bif okAt a && Nat.beq c 4 then .get a.block fun o => bif Nat.ble n 70368744177664 then readA o a.off (Nat.mul n 4) (fun l => match decOps n l with
      | some ops => k ops
      | none => .fail) else .fail
    else .fail
  | _ => .fail
def scrOfS : SV → Option (SetD × SV)
  | .agg [.int .i64 _ a, .bool _ af, .int .i64 _ b, .bool _ bf, .int .i64 _ c, .bool _ cf, .int .i64 _ m, .int .i64 _ r, .int .i64 _ s, .int .i64 _ t, .int .i64 _ q, o] => some (⟨a, af, b, bf, c, cf, m, r, s, t, q⟩, o)
  | _ => none
def opsSym (o : SV) (k : List OpD → SM SV) : SM SV :=
  match o with
  | .raw (.slice none _ _) => k []
  | .sl b off n c => bif Nat.beq c 4 then .get b fun o => rowS o off n 4 fun r => match r with
      | .lits [] => bif Nat.beq n.n 0 then k [] else .fail
      | .arr m [.int .i64 fk, .int .i64 fs, .str fb, .int .i64 fn] => .node (Nat.ble m.n 70368744177664) (k (opsL m.n fk fs fb fn)) .fail
      | _ => .fail
    else .fail
  | _ => .fail
/-- A function of a script that gives a plain value. -/
def scrA (F : SetD → List OpD → Value) (args : List Value) (_ : Nat) : AM Value :=
  match args with
  | [a] => match scrOf a with
    | some (g, o) => opsA o fun ops => .ret (F g ops)
    | none => .fail
  | _ => .fail
def scrSym (F : SetD → List OpD → SV) (args : List SV) (_ : Nat) : SM SV :=
  match args with
  | [a] => match scrOfS a with
    | some (g, o) => opsSym o fun ops => .ret (F g ops)
    | none => .fail
  | _ => .fail
/-- A function of two scripts. -/
def scr2A (F : SetD → List OpD → SetD → List OpD → Value) (args : List Value) (_ : Nat) : AM Value :=
  match args with
  | [a, b] => match scrOf a, scrOf b with
    | some (g, o), some (g2, o2) => opsA o fun ops => opsA o2 fun ops2 => .ret (F g ops g2 ops2)
    | _, _ => .fail
  | _ => .fail
def scr2Sym (F : SetD → List OpD → SetD → List OpD → SV) (args : List SV) (_ : Nat) : SM SV :=
  match args with
  | [a, b] => match scrOfS a, scrOfS b with
    | some (g, o), some (g2, o2) => opsSym o fun ops => opsSym o2 fun ops2 => .ret (F g ops g2 ops2)
    | _, _ => .fail
  | _ => .fail
def fk (ops : List OpD) (i : Nat) : Int := (ops.getD i ⟨0, 0, ⟨#[]⟩, 0⟩).k
def fs (ops : List OpD) (i : Nat) : Int := (ops.getD i ⟨0, 0, ⟨#[]⟩, 0⟩).s
def fb (ops : List OpD) (i : Nat) : ByteArray := (ops.getD i ⟨0, 0, ⟨#[]⟩, 0⟩).b
def fn (ops : List OpD) (i : Nat) : Int := (ops.getD i ⟨0, 0, ⟨#[]⟩, 0⟩).n
end
end defs
theorem opsL_get (ops : List OpD) : opsL ops.length (fk ops) (fs ops) (fb ops) (fn ops) = ops := by
  apply List.ext_getElem?
  intro i
  rw [List.getElem?_map]
  by_cases h : i < ops.length
  · rw [List.getElem?_range h, List.getElem?_eq_getElem h]
    simp [fk, fs, fb, fn, List.getD_eq_getElem?_getD, List.getElem?_eq_getElem h]
  · rw [List.getElem?_eq_none (by simp; omega), List.getElem?_eq_none (by omega)]
    rfl
def cellsOfOp (o : OpD) : List Value := [.int .i64 o.k, .int .i64 o.s, .string o.b, .int .i64 o.n]
theorem decOps_spec : ∀ (n : Nat) (l : List Value) (ops : List OpD), decOps n l = some ops → ops.length = n ∧ l = ops.flatMap cellsOfOp
  | 0, [], ops, h => by simp only [decOps, Option.some.injEq] at h; subst h; exact ⟨rfl, rfl⟩
  | 0, _ :: _, ops, h => by simp [decOps] at h
  | n + 1, l, ops, h => by
    unfold decOps at h
    split at h
    · rename_i hh
      cases hh
    · rename_i k s b m l' heq
      cases heq
      cases hr : decOps n l' with
      | none => rw [hr] at h; cases h
      | some r =>
        rw [hr] at h
        simp only [Option.some.injEq] at h
        subst h
        obtain ⟨h1, h2⟩ := decOps_spec n l' r hr
        exact ⟨by simp [h1], by rw [h2]; rfl⟩
    · cases h
theorem arr_ops (len : Nat) (k s : Nat → Int) (b : Nat → ByteArray) (n : Nat → Int) : arrCells len (opFs k s b n) = (opsL len k s b n).flatMap cellsOfOp := by
  unfold arrCells
  rw [List.flatMap_map]
  rfl
theorem decOps_flat : ∀ ops : List OpD, decOps ops.length (ops.flatMap cellsOfOp) = some ops
  | [] => rfl
  | o :: l => by
    show decOps (l.length + 1) (.int .i64 o.k :: .int .i64 o.s :: .string o.b :: .int .i64 o.n :: l.flatMap cellsOfOp) = _
    simp only [decOps, decOps_flat l]
theorem decOps_arr (len : Nat) (k s : Nat → Int) (b : Nat → ByteArray) (n : Nat → Int) : decOps len (arrCells len (opFs k s b n)) = some (opsL len k s b n) := by
  have := decOps_flat (opsL len k s b n)
  rw [opsL_length, ← arr_ops] at this
  exact this
theorem cellsOfOp_plain (ops : List OpD) : (ops.flatMap cellsOfOp).all plain1 = true := by
  induction ops with
  | nil => rfl
  | cons o l ih => simp only [List.flatMap_cons, List.all_append, ih, Bool.and_true]; rfl

theorem cellsOfOp_length (ops : List OpD) : (ops.flatMap cellsOfOp).length = ops.length * 4 := by
  induction ops with
  | nil => rfl
  | cons o r ih => rw [List.flatMap_cons, List.length_append, ih, List.length_cons]; simp [cellsOfOp]; omega
theorem scrOfS_den {v : SV} {g : SetD} {o : SV} (h : scrOfS v = some (g, o)) : scrOf v.den = some (g, o.den) ∧ v.den = (scrS g o).den := by
  unfold scrOfS at h
  split at h
  · cases h
    exact ⟨rfl, rfl⟩
  · cases h
theorem readA_fail {β : Type} (o : AObj) (off n : Nat) : readA o off n (fun _ => (.fail : AM β)) = .fail := by
  unfold readA
  split
  · split <;> rfl
  · rfl
theorem opsSym_hom {k : List OpD → SM SV} {k' : List OpD → AM Value} (hk : ∀ ops, Hom HV (k ops) (k' ops)) (o : SV) : Hom HV (opsSym o k) (opsA o.den k') := by
  unfold opsSym
  split
  · exact hk []
  · rename_i b off n c
    simp only [SV.den, opsA, okAt, Option.isNone_none, Bool.true_and]
    cases Nat.beq c 4 with
    | false => exact .fail _
    | true =>
      simp only [cond_true]
      refine .get _ _ _ fun o => ?_
      cases hb : Nat.ble n.n 70368744177664 with
      | true =>
        simp only [cond_true]
        refine rowS_hom (fun r hr => ?_) o off
        split
        · refine .bifL fun hz => ?_
          have hz : n.n = 0 := Nat.eq_of_beq_eq_true hz
          rw [hz]
          exact hk []
        · rename_i m a1 a2 a3 a4
          obtain ⟨rfl, _, _⟩ := hr
          simp only [rowDen]
          have := decOps_arr m.n a1 a2 a3 a4
          unfold opFs at this
          rw [this]
          exact .node _ _ _ _ (fun _ => hk _) fun _ => .fail _
        · exact .fail _
      | false =>
        simp only [cond_false]
        have := rowS_hom (R := HV) (k := fun r => match r with
          | .lits [] => bif Nat.beq n.n 0 then k [] else .fail
          | .arr m [.int .i64 fk, .int .i64 fs, .str fb, .int .i64 fn] => .node (Nat.ble m.n 70368744177664) (k (opsL m.n fk fs fb fn)) .fail
          | _ => .fail) (K' := fun _ => (.fail : AM Value)) (n := n) (size := 4) (fun r hr => by
            split
            · refine .bifL fun hz => ?_
              have hz : n.n = 0 := Nat.eq_of_beq_eq_true hz
              rw [hz] at hb
              cases hb
            · obtain ⟨rfl, _, _⟩ := hr
              exact .node _ _ _ _ (fun h => by rw [hb] at h; cases h) fun _ => .fail _
            · exact .fail _) o off
        rw [readA_fail] at this
        exact this
  · exact .fail _
theorem scr_hom {F : SetD → List OpD → SV} {F' : SetD → List OpD → Value} (h : ∀ g ops, (F g ops).den = F' g ops) : ∀ args id, Hom HV (scrSym F args id) (scrA F' (dens args) id) := by
  intro args id
  unfold scrSym scrA
  match args with
  | [] => exact .fail _
  | _ :: _ :: _ => exact .fail _
  | [a] =>
    simp only [dens]
    cases ha : scrOfS a with
    | none => exact .fail _
    | some p =>
      obtain ⟨g, o⟩ := p
      rw [(scrOfS_den ha).1]
      exact opsSym_hom (fun ops => .ret _ _ (h g ops).symm) o
theorem scr2_hom {F : SetD → List OpD → SetD → List OpD → SV} {F' : SetD → List OpD → SetD → List OpD → Value} (h : ∀ g ops g2 ops2, (F g ops g2 ops2).den = F' g ops g2 ops2) : ∀ args id, Hom HV (scr2Sym F args id) (scr2A F' (dens args) id) := by
  intro args id
  unfold scr2Sym scr2A
  match args with
  | [] => exact .fail _
  | [_] => exact .fail _
  | _ :: _ :: _ :: _ => exact .fail _
  | [a, b] =>
    simp only [dens]
    cases ha : scrOfS a with
    | none => exact .fail _
    | some p =>
      cases hb : scrOfS b with
      | none => obtain ⟨g, o⟩ := p; exact .fail _
      | some q =>
        obtain ⟨g, o⟩ := p
        obtain ⟨g2, o2⟩ := q
        rw [(scrOfS_den ha).1, (scrOfS_den hb).1]
        exact opsSym_hom (fun ops => opsSym_hom (fun ops2 => .ret _ _ (h g ops g2 ops2).symm) o2) o

theorem scrOf_spec {v : Value} {g : SetD} {o : Value} (h : scrOf v = some (g, o)) : v = .agg ((dens g.sv) ++ [o]).toArray := by
  unfold scrOf at h
  split at h
  · rename_i cs
    split at h
    · rename_i heq
      cases h
      exact congrArg Value.agg (Array.toList_inj.1 heq)
    · cases h
  · cases h
theorem set_plain (g : SetD) : (dens g.sv).all plain1 = true := rfl

/-- A function of a script, from what it does where there are no ops, and where there are some. -/
theorem scr_tab {P : Program} {f : FuncId} {F : SetD → List OpD → Value} (hF : ∀ g ops, plainR (F g ops) = true)
    (hnil : ∀ g w, Calls P f (dens [scrS g nilO]).toArray w fun e w' => e = .returned (F g []) ∧ Below w.heap.size w w')
    (harr : ∀ g len k s b n ρ w args', len ≤ 70368744177664 → (∀ i g, ρ i = .img g → g.rw = false) → WRel ρ (mkH [opsO len k s b n]).den w → VsRel ρ (dens [scrS g (slO len)]) (Array.toList args') →
      Calls P f args' w fun e w' => e = .returned (F g (opsL len k s b n)) ∧ Below w.heap.size w w') : TabOK P f (scrA F) := by
  intro ρ hh w args args' v h1 wr ra e
  obtain ⟨hn, e⟩ := tabF_some e
  obtain ⟨la⟩ := args'
  simp only at ra
  unfold scrA at e
  match args, ra, e with
  | [], _, e => cases e
  | _ :: _ :: _, _, e => cases e
  | [a], ra, e =>
    simp only at e
    cases ha : scrOf a with
    | none => rw [ha] at e; cases e
    | some p =>
      obtain ⟨g, o⟩ := p
      rw [ha] at e
      simp only at e
      have hv := scrOf_spec ha
      subst hv
      unfold opsA at e
      split at e
      · simp only [AM.run, Option.some.injEq, Prod.mk.injEq] at e
        obtain ⟨rfl, rfl⟩ := e
        have hz : la = dens [scrS g nilO] := by
          cases ra with
          | cons x x' l l' hx ht =>
            cases ht
            cases hx with
            | agg y y' hr =>
              obtain ⟨ta, tv, e1, e2, e3⟩ := hr.last
              have e4 := plains_eq _ _ (set_plain g) e2
              cases e3
              subst e4
              show [Value.agg y'] = [Value.agg _]
              congr 2
              apply Array.toList_inj.1
              rw [e1]
              rfl
        subst hz
        refine Calls.mono (hnil g w) ?_
        rintro e w' ⟨rfl, hb⟩
        exact CallEnd.of_below wr hn (hF _ _) hb
      · rename_i x n c _
        cases hok : (okAt x && Nat.beq c 4) with
        | false => rw [hok] at e; cases e
        | true =>
          rw [hok] at e
          simp only [cond_true, AM.run] at e
          simp only [Bool.and_eq_true] at hok
          have hc : c = 4 := Nat.eq_of_beq_eq_true hok.2
          subst hc
          obtain ⟨ab, ao, asp⟩ := x
          have hsp : asp = none := by have := hok.1; simpa [okAt] using this
          subst hsp
          have wrm := wr.more hn
          cases hg : (hh.more 1).get ab with
          | none => simp only [hg] at e; cases e
          | some oo =>
            simp only [hg] at e
            cases hbn : Nat.ble n 70368744177664 with
            | false => rw [hbn] at e; cases e
            | true =>
            rw [hbn] at e
            simp only [cond_true] at e
            cases oo with
            | amap _ => cases e
            | dead => cases e
            | cells d rw0 =>
              simp only [readA] at e
              cases ht : takeCells d ao (Nat.mul n 4) with
              | none => rw [ht] at e; cases e
              | some l =>
                rw [ht] at e
                simp only at e
                cases hd : decOps n l with
                | none => rw [hd] at e; cases e
                | some ops =>
                  rw [hd] at e
                  simp only [AM.run, Option.some.injEq, Prod.mk.injEq] at e
                  obtain ⟨rfl, rfl⟩ := e
                  obtain ⟨hl1, hl2⟩ := decOps_spec n l ops hd
                  have hlen : l.length = n * 4 := by
                    rw [hl2, ← hl1]
                    exact cellsOfOp_length ops
                  have ht' : takeCells d ao l.length = some l := by rw [hlen]; exact ht
                  have hod : (opsO n (fk ops) (fs ops) (fb ops) (fn ops)).den = .cells l false := by
                    simp only [SObj.den]
                    rw [arr_ops, ← hl1, opsL_get, ← hl2]
                  have wc := sub_WRel wrm hg ht' (by rw [hl2]; exact cellsOfOp_plain ops) hod
                  have ra2 : VsRel (subEmb ρ ab ao) (dens [scrS g (slO n)]) la := by
                    cases ra with
                    | cons x x' l l' hx ht =>
                      cases ht
                      cases hx with
                      | agg y y' hr =>
                        refine .cons _ _ _ _ (.agg _ _ ?_) .nil
                        obtain ⟨ta, tv, e1, e2, e3⟩ := hr.last
                        rw [e1]
                        have e5 : (dens (g.sv ++ [slO n])).toArray.toList = dens g.sv ++ [SV.den (slO n)] := by simp [dens]
                        rw [e5]
                        refine VsRel.append ?_ (.one (sub_slice wrm hg e3))
                        rw [plains_eq _ _ (set_plain g) e2]
                        exact plains_rel (set_plain g)
                  have := harr g n (fk ops) (fs ops) (fb ops) (fn ops) _ w ⟨la⟩ (nat_ble hbn) (subEmb_ro ρ ab ao) wc ra2
                  rw [← hl1, opsL_get] at this
                  refine Calls.mono this ?_
                  rintro e w' ⟨rfl, hb⟩
                  exact CallEnd.of_below wr hn (hF _ _) hb
      · cases e
end Go.Ev
end
section
namespace Go.Ev
open Go.RowKit
abbrev slP (i len : Nat) : SV := .sl i (.c 0) ⟨false, len⟩ 4
/-- Pieces of the great heap, to be read. -/
def subEmbL (ρ : Emb) (σ : List (Nat × Nat)) : Emb := fun i =>
  match σ[i]? with
  | some (r, off) => (match ρ r with
    | .img g => .img ⟨g.b, g.base + off, g.n, false⟩
    | s => s)
  | none => if i = σ.length then .dead else .free
theorem subEmbL_ro (ρ : Emb) (σ : List (Nat × Nat)) : ∀ i g, subEmbL ρ σ i = .img g → g.rw = false := by
  intro i g hg
  unfold subEmbL at hg
  split at hg
  · rename_i r off _
    cases hr : ρ r with
    | img g0 => rw [hr] at hg; cases hg; rfl
    | free => rw [hr] at hg; cases hg
    | dead => rw [hr] at hg; cases hg
  · split at hg <;> cases hg
theorem sub_WRelL {ρ : Emb} {h : AH} {w : World} (wr : WRel ρ h w) {σ : List (Nat × Nat)} {O : List SObj} (hl : O.length = σ.length) (hm : O.length < most)
    (hO : ∀ (i r off : Nat) (o : SObj), σ[i]? = some (r, off) → O[i]? = some o → ∃ (d l : List Value) (rw0 : Bool), h.get r = some (.cells d rw0) ∧ takeCells d off l.length = some l ∧ l.all plain1 = true ∧ o.den = .cells l false) : WRel (subEmbL ρ σ) (mkH O).den w := by
  refine ⟨mkH_ok hm, fun i => ?_, fun i j gi gj _ hi _ hr => by rw [subEmbL_ro ρ σ i gi hi] at hr; cases hr⟩
  rw [SH.den_get, mkH_get hm]
  by_cases h1 : i = O.length
  · rw [if_pos h1]
    show subEmbL ρ σ i = .dead
    unfold subEmbL
    rw [List.getElem?_eq_none (by omega), h1]
    simp [hl]
  · rw [if_neg h1]
    cases ho : O[i]? with
    | none =>
      show subEmbL ρ σ i = .free
      have : O.length ≤ i := by simpa using ho
      unfold subEmbL
      rw [List.getElem?_eq_none (by omega)]
      simp only
      rw [if_neg (by omega)]
    | some o =>
      have hil : i < σ.length := by rw [← hl]; exact (List.getElem?_eq_some_iff.1 ho).1
      rcases hs : σ[i] with ⟨r, off⟩
      have hs' : σ[i]? = some (r, off) := by rw [List.getElem?_eq_getElem hil, hs]
      obtain ⟨d, l, rw0, hg, ht, hp, hod⟩ := hO i r off o hs' ho
      have hlv := wr.cells? hg
      have hle : off + l.length ≤ d.length ∧ (d.drop off).take l.length = l := by
        unfold takeCells at ht
        cases hb : Nat.ble (Nat.add off l.length) d.length with
        | false => rw [hb] at ht; cases ht
        | true =>
          rw [hb] at ht
          simp only [cond_true, Option.some.injEq] at ht
          exact ⟨nat_ble hb, ht⟩
      simp only [Option.map_some, hod]
      rcases hlv with ⟨g, hgi, h5, c', et, fz, h6, h7, h8, h9, _⟩ | ⟨hdd, rfl, rfl⟩
      case inr =>
        have hl0 : l = [] := List.length_eq_zero_iff.1 (by have := hle.1; simp only [List.length_nil] at this; omega)
        subst hl0
        exact .inr ⟨by unfold subEmbL; rw [hs']; simp only [hdd], rfl⟩
      refine .inl ⟨⟨g.b, g.base + off, g.n, false⟩, by unfold subEmbL; rw [hs']; simp only [hgi], rfl, c', et, fz, h6, h7, by simp only; omega, fun j v hj => ?_, fun hf => by cases hf⟩
      have hjl := (List.getElem?_eq_some_iff.1 hj).1
      have hd : d[off + j]? = some v := by
        rw [← hle.2, List.getElem?_take_of_lt hjl, List.getElem?_drop] at hj
        exact hj
      obtain ⟨v', e1, e2⟩ := h9 (off + j) v hd
      rw [List.all_eq_true] at hp
      have hv := hp v (List.mem_of_getElem? hj)
      rw [plain1_eq hv e2] at e1
      exact ⟨v, by simp only; rw [← e1]; congr 1; omega, plain1_rel hv⟩
theorem sub_sliceL {ρ : Emb} {h : AH} {w : World} (wr : WRel ρ h w) {σ : List (Nat × Nat)} {i r off : Nat} (hs : σ[i]? = some (r, off)) {d : List Value} {rw0 : Bool} (hg : h.get r = some (.cells d rw0)) {n s : Nat} {v' : Value} (rv : VRel ρ (.slice (some ⟨r, off, none⟩) n s) v') :
    VRel (subEmbL ρ σ) (.slice (some ⟨i, 0, none⟩) n s) v' := by
  rcases wr.cells? hg with ⟨g, hgi, _⟩ | ⟨hdd, _⟩
  case inr =>
    have h0 : subEmbL ρ σ i = .dead := by unfold subEmbL; rw [hs]; simp only [hdd]
    cases rv with
    | sl a a' len c cap' hr => exact .sl _ a' _ _ cap' ⟨by show subEmbL ρ σ i ≠ _; rw [h0]; simp, rfl, hr.2.2.1, fun g1 hg1 => by rw [h0] at hg1; cases hg1⟩
  have hsub : subEmbL ρ σ i = .img ⟨g.b, g.base + off, g.n, false⟩ := by unfold subEmbL; rw [hs]; simp only [hgi]
  cases rv with
  | sl a a' len c cap' hr =>
    refine .sl _ a' _ _ cap' ⟨?_, rfl, hr.2.2.1, fun g1 hg1 => ?_⟩
    · show subEmbL ρ σ i ≠ _
      rw [hsub]
      simp
    · have hg1 : subEmbL ρ σ i = .img g1 := hg1
      rw [hsub] at hg1
      simp only [Slot.img.injEq] at hg1
      subst hg1
      rcases hr.2.2.2 g hgi with h1 | ⟨h1, h2, h3, h4⟩
      · exact .inl h1
      · exact .inr ⟨h1, h2, by simp only at h3 ⊢; omega, by simp only; exact h4⟩

/-- What a slice of ops is. -/
theorem opsA_run {o : Value} {k : List OpD → AM Value} {id : Nat} {h h1 : AH} {v : Value} (e : (opsA o k).run id h = some (v, h1)) :
    (∃ n c, o = .slice none n c ∧ (k []).run id h = some (v, h1)) ∨
    ∃ (r off n : Nat) (d : List Value) (rw0 : Bool) (ops : List OpD), o = .slice (some ⟨r, off, none⟩) n 4 ∧ n ≤ 70368744177664 ∧ h.get r = some (.cells d rw0) ∧ ops.length = n ∧ takeCells d off (ops.flatMap cellsOfOp).length = some (ops.flatMap cellsOfOp) ∧ (k ops).run id h = some (v, h1) := by
  unfold opsA at e
  split at e
  · exact .inl ⟨_, _, rfl, e⟩
  · rename_i x n c
    refine .inr ?_
    cases hok : (okAt x && Nat.beq c 4) with
    | false => rw [hok] at e; cases e
    | true =>
      rw [hok] at e
      simp only [cond_true, AM.run] at e
      simp only [Bool.and_eq_true] at hok
      have hc : c = 4 := Nat.eq_of_beq_eq_true hok.2
      subst hc
      obtain ⟨ab, ao, asp⟩ := x
      have hsp : asp = none := by have := hok.1; simpa [okAt] using this
      subst hsp
      cases hg : h.get ab with
      | none => simp only [hg] at e; cases e
      | some oo =>
        simp only [hg] at e
        cases hbn : Nat.ble n 70368744177664 with
        | false => rw [hbn] at e; cases e
        | true =>
          rw [hbn] at e
          simp only [cond_true] at e
          cases oo with
          | amap _ => cases e
          | dead => cases e
          | cells d rw0 =>
            simp only [readA] at e
            cases ht : takeCells d ao (Nat.mul n 4) with
            | none => rw [ht] at e; cases e
            | some l =>
              rw [ht] at e
              simp only at e
              cases hd : decOps n l with
              | none => rw [hd] at e; cases e
              | some ops =>
                rw [hd] at e
                obtain ⟨hl1, hl2⟩ := decOps_spec n l ops hd
                refine ⟨ab, ao, n, d, rw0, ops, rfl, nat_ble hbn, hg, hl1, ?_, e⟩
                rw [← hl2]
                have : l.length = Nat.mul n 4 := by rw [hl2, cellsOfOp_length, hl1]; rfl
                rw [this]
                exact ht
  · cases e
/-- The script, seen elsewhere. -/
theorem scr_rel {ρ ρ2 : Emb} {g : SetD} {o : Value} {s : SV} {x' : Value} (h : VRel ρ (.agg ((dens g.sv) ++ [o]).toArray) x') (k : ∀ v', VRel ρ o v' → VRel ρ2 s.den v') : VRel ρ2 (scrS g s).den x' := by
  cases h with
  | agg y y' hr =>
    refine .agg _ _ ?_
    obtain ⟨ta, tv, e1, e2, e3⟩ := hr.last
    rw [e1]
    have e5 : (dens (g.sv ++ [s])).toArray.toList = dens g.sv ++ [SV.den s] := by simp [dens]
    rw [e5]
    refine VsRel.append ?_ (.one (k _ e3))
    rw [plains_eq _ _ (set_plain g) e2]
    exact plains_rel (set_plain g)
theorem nil_rel {ρ ρ2 : Emb} {n c : Nat} {v' : Value} (h : VRel ρ (.slice none n c) v') : VRel ρ2 (SV.den nilO) v' := by
  cases h
  exact .slNil
theorem opsO_of (ops : List OpD) : (opsO ops.length (fk ops) (fs ops) (fb ops) (fn ops)).den = .cells (ops.flatMap cellsOfOp) false := by
  simp only [SObj.den]
  rw [arr_ops, opsL_get]
/-- A function of two scripts. -/
theorem scr2_tab {P : Program} {f : FuncId} {F : SetD → List OpD → SetD → List OpD → Value} (hF : ∀ g ops g2 ops2, plainR (F g ops g2 ops2) = true)
    (h00 : ∀ g g2 ρ w args', (∀ i g, ρ i = .img g → g.rw = false) → WRel ρ (mkH []).den w → VsRel ρ (dens [scrS g nilO, scrS g2 nilO]) (Array.toList args') → Calls P f args' w fun e w' => e = .returned (F g [] g2 []) ∧ Below w.heap.size w w')
    (h01 : ∀ g g2 len k s b n ρ w args', len ≤ 70368744177664 → (∀ i g, ρ i = .img g → g.rw = false) → WRel ρ (mkH [opsO len k s b n]).den w → VsRel ρ (dens [scrS g nilO, scrS g2 (slO len)]) (Array.toList args') →
      Calls P f args' w fun e w' => e = .returned (F g [] g2 (opsL len k s b n)) ∧ Below w.heap.size w w')
    (h10 : ∀ g g2 len k s b n ρ w args', len ≤ 70368744177664 → (∀ i g, ρ i = .img g → g.rw = false) → WRel ρ (mkH [opsO len k s b n]).den w → VsRel ρ (dens [scrS g (slO len), scrS g2 nilO]) (Array.toList args') →
      Calls P f args' w fun e w' => e = .returned (F g (opsL len k s b n) g2 []) ∧ Below w.heap.size w w')
    (h11 : ∀ g g2 len k s b n len' k' s' b' n' ρ w args', len ≤ 70368744177664 → len' ≤ 70368744177664 → (∀ i g, ρ i = .img g → g.rw = false) → WRel ρ (mkH [opsO len k s b n, opsO len' k' s' b' n']).den w → VsRel ρ (dens [scrS g (slP 0 len), scrS g2 (slP 1 len')]) (Array.toList args') →
      Calls P f args' w fun e w' => e = .returned (F g (opsL len k s b n) g2 (opsL len' k' s' b' n')) ∧ Below w.heap.size w w') : TabOK P f (scr2A F) := by
  intro ρ hh w args args' v h1 wr ra e
  obtain ⟨hn, e⟩ := tabF_some e
  obtain ⟨la⟩ := args'
  simp only at ra
  have wrm := wr.more hn
  unfold scr2A at e
  match args, ra, e with
  | [], _, e => cases e
  | [_], _, e => cases e
  | _ :: _ :: _ :: _, _, e => cases e
  | [a, b], ra, e =>
    simp only at e
    cases ha : scrOf a with
    | none => rw [ha] at e; cases e
    | some p =>
      cases hb : scrOf b with
      | none => rw [ha, hb] at e; cases e
      | some q =>
        obtain ⟨g, o⟩ := p
        obtain ⟨g2, o2⟩ := q
        rw [ha, hb] at e
        simp only at e
        have hv := scrOf_spec ha
        have hv2 := scrOf_spec hb
        subst hv hv2
        cases ra with
        | cons x x' l l' hx ht =>
        cases ht with
        | cons y y' l l' hy ht =>
        cases ht
        rcases opsA_run e with ⟨n, c, rfl, e1⟩ | ⟨r, off, n, d, rw0, ops, rfl, hn1, hg, hl, htk, e1⟩
        · rcases opsA_run e1 with ⟨n2, c2, rfl, e2⟩ | ⟨r2, off2, n2, d2, rw2, ops2, rfl, hn2, hg2, hl2, htk2, e2⟩
          · simp only [AM.run, Option.some.injEq, Prod.mk.injEq] at e2
            obtain ⟨rfl, rfl⟩ := e2
            have wc : WRel (subEmbL ρ []) (mkH []).den w := sub_WRelL wrm rfl (by decide) (fun i r off o hi => by simp at hi)
            refine Calls.mono (h00 g g2 _ w ⟨[x', y']⟩ (subEmbL_ro ρ []) wc (.cons _ _ _ _ (scr_rel hx fun _ => nil_rel) (.cons _ _ _ _ (scr_rel hy fun _ => nil_rel) .nil))) ?_
            rintro e w' ⟨rfl, hb⟩
            exact CallEnd.of_below wr hn (hF _ _ _ _) hb
          · simp only [AM.run, Option.some.injEq, Prod.mk.injEq] at e2
            obtain ⟨rfl, rfl⟩ := e2
            have wc := sub_WRel wrm hg2 htk2 (cellsOfOp_plain ops2) (opsO_of ops2)
            have := h01 g g2 ops2.length (fk ops2) (fs ops2) (fb ops2) (fn ops2) _ w ⟨[x', y']⟩ (by omega) (subEmb_ro ρ r2 off2) wc (.cons _ _ _ _ (scr_rel hx fun _ => nil_rel) (.cons _ _ _ _ (scr_rel hy fun v' hv => by rw [← hl2] at hv; exact sub_slice wrm hg2 hv) .nil))
            rw [opsL_get] at this
            refine Calls.mono this ?_
            rintro e w' ⟨rfl, hb⟩
            exact CallEnd.of_below wr hn (hF _ _ _ _) hb
        · rcases opsA_run e1 with ⟨n2, c2, rfl, e2⟩ | ⟨r2, off2, n2, d2, rw2, ops2, rfl, hn2, hg2, hl2, htk2, e2⟩
          · simp only [AM.run, Option.some.injEq, Prod.mk.injEq] at e2
            obtain ⟨rfl, rfl⟩ := e2
            have wc := sub_WRel wrm hg htk (cellsOfOp_plain ops) (opsO_of ops)
            have := h10 g g2 ops.length (fk ops) (fs ops) (fb ops) (fn ops) _ w ⟨[x', y']⟩ (by omega) (subEmb_ro ρ r off) wc (.cons _ _ _ _ (scr_rel hx fun v' hv => by rw [← hl] at hv; exact sub_slice wrm hg hv) (.cons _ _ _ _ (scr_rel hy fun _ => nil_rel) .nil))
            rw [opsL_get] at this
            refine Calls.mono this ?_
            rintro e w' ⟨rfl, hb⟩
            exact CallEnd.of_below wr hn (hF _ _ _ _) hb
          · simp only [AM.run, Option.some.injEq, Prod.mk.injEq] at e2
            obtain ⟨rfl, rfl⟩ := e2
            have wc : WRel (subEmbL ρ [(r, off), (r2, off2)]) (mkH [opsO ops.length (fk ops) (fs ops) (fb ops) (fn ops), opsO ops2.length (fk ops2) (fs ops2) (fb ops2) (fn ops2)]).den w := by
              refine sub_WRelL wrm rfl (by simp [most]) fun i r' off' o hi ho => ?_
              match i, hi, ho with
              | 0, hi, ho =>
                simp only [List.getElem?_cons_zero, Option.some.injEq, Prod.mk.injEq] at hi ho
                obtain ⟨rfl, rfl⟩ := hi
                subst ho
                exact ⟨d, _, rw0, hg, htk, cellsOfOp_plain ops, opsO_of ops⟩
              | 1, hi, ho =>
                simp only [List.getElem?_cons_succ, List.getElem?_cons_zero, Option.some.injEq, Prod.mk.injEq] at hi ho
                obtain ⟨rfl, rfl⟩ := hi
                subst ho
                exact ⟨d2, _, rw2, hg2, htk2, cellsOfOp_plain ops2, opsO_of ops2⟩
              | i + 2, hi, ho => simp at hi
            have := h11 g g2 ops.length (fk ops) (fs ops) (fb ops) (fn ops) ops2.length (fk ops2) (fs ops2) (fb ops2) (fn ops2) _ w ⟨[x', y']⟩ (by omega) (by omega) (subEmbL_ro ρ _) wc
              (.cons _ _ _ _ (scr_rel hx fun v' hv => by rw [← hl] at hv; exact sub_sliceL wrm (i := 0) rfl hg hv) (.cons _ _ _ _ (scr_rel hy fun v' hv => by rw [← hl2] at hv; exact sub_sliceL wrm (i := 1) rfl hg2 hv) .nil))
            rw [opsL_get, opsL_get] at this
            refine Calls.mono this ?_
            rintro e w' ⟨rfl, hb⟩
            exact CallEnd.of_below wr hn (hF _ _ _ _) hb
/-- Is it this function? -/
def isFn (u : FuncId) (v : Value) : Bool :=
  match v with
  | .func (.func f) a c => Nat.beq f u && a.isEmpty && c.isEmpty
  | _ => false
theorem isFn_eq {u : FuncId} {v : Value} (h : isFn u v = true) : v = .func (.func u) #[] #[] := by
  unfold isFn at h
  split at h
  · simp only [Bool.and_eq_true, Array.isEmpty_iff] at h
    obtain ⟨⟨h1, rfl⟩, rfl⟩ := h
    rw [Nat.eq_of_beq_eq_true h1]
  · cases h
noncomputable def sl2A (u : FuncId) (F : List OpD → List OpD → Value) (args : List Value) (_ : Nat) : AM Value :=
  match args with
  | [o, o2, f] => bif isFn u f then opsA o fun ops => opsA o2 fun ops2 => .ret (F ops ops2) else .fail
  | _ => .fail
noncomputable def sl2Sym (u : FuncId) (F : List OpD → List OpD → SV) (args : List SV) (_ : Nat) : SM SV :=
  match args with
  | [o, o2, .func f [] []] => bif Nat.beq f u then opsSym o fun ops => opsSym o2 fun ops2 => .ret (F ops ops2) else .fail
  | _ => .fail
theorem sl2_hom {u : FuncId} {F : List OpD → List OpD → SV} {F' : List OpD → List OpD → Value} (h : ∀ ops ops2, (F ops ops2).den = F' ops ops2) : ∀ args id, Hom HV (sl2Sym u F args id) (sl2A u F' (dens args) id) := by
  intro args id
  unfold sl2Sym sl2A
  split
  · rename_i o o2 f
    simp only [dens, SV.den, isFn]
    cases hb : Nat.beq f u with
    | false => exact .fail _
    | true => exact opsSym_hom (fun ops => opsSym_hom (fun ops2 => .ret _ _ (h ops ops2).symm) o2) o
  · exact .fail _
/-- A function of two slices of ops, and of a function. -/
theorem sl2_tab {P : Program} {f : FuncId} {u : FuncId} {F : List OpD → List OpD → Value} (hF : ∀ ops ops2, plainR (F ops ops2) = true)
    (h00 : ∀ ρ w args', (∀ i g, ρ i = .img g → g.rw = false) → WRel ρ (mkH []).den w → VsRel ρ (dens [nilO, nilO, .func u [] []]) (Array.toList args') → Calls P f args' w fun e w' => e = .returned (F [] []) ∧ Below w.heap.size w w')
    (h01 : ∀ len k s b n ρ w args', len ≤ 70368744177664 → (∀ i g, ρ i = .img g → g.rw = false) → WRel ρ (mkH [opsO len k s b n]).den w → VsRel ρ (dens [nilO, slO len, .func u [] []]) (Array.toList args') →
      Calls P f args' w fun e w' => e = .returned (F [] (opsL len k s b n)) ∧ Below w.heap.size w w')
    (h10 : ∀ len k s b n ρ w args', len ≤ 70368744177664 → (∀ i g, ρ i = .img g → g.rw = false) → WRel ρ (mkH [opsO len k s b n]).den w → VsRel ρ (dens [slO len, nilO, .func u [] []]) (Array.toList args') →
      Calls P f args' w fun e w' => e = .returned (F (opsL len k s b n) []) ∧ Below w.heap.size w w')
    (h11 : ∀ len k s b n len' k' s' b' n' ρ w args', len ≤ 70368744177664 → len' ≤ 70368744177664 → (∀ i g, ρ i = .img g → g.rw = false) → WRel ρ (mkH [opsO len k s b n, opsO len' k' s' b' n']).den w → VsRel ρ (dens [slP 0 len, slP 1 len', .func u [] []]) (Array.toList args') →
      Calls P f args' w fun e w' => e = .returned (F (opsL len k s b n) (opsL len' k' s' b' n')) ∧ Below w.heap.size w w') : TabOK P f (sl2A u F) := by
  intro ρ hh w args args' v h1 wr ra e
  obtain ⟨hn, e⟩ := tabF_some e
  obtain ⟨la⟩ := args'
  simp only at ra
  have wrm := wr.more hn
  unfold sl2A at e
  match args, ra, e with
  | [], _, e => cases e
  | [_], _, e => cases e
  | [_, _], _, e => cases e
  | _ :: _ :: _ :: _ :: _, _, e => cases e
  | [o, o2, fv], ra, e =>
    simp only at e
    cases hfv : isFn u fv with
    | false => rw [hfv] at e; cases e
    | true =>
        rw [hfv] at e
        simp only [cond_true] at e
        have hfe := isFn_eq hfv
        subst hfe
        cases ra with
        | cons x x' l l' hx ht =>
        cases ht with
        | cons y y' l l' hy ht =>
        cases ht with
        | cons z z' l l' hz ht =>
        cases ht
        have hz2 : ∀ ρ2, VRel ρ2 (SV.den (.func u [] [])) z' := fun ρ2 => by
          cases hz with
          | func fn a b a' b' q1 q2 =>
            obtain ⟨la'⟩ := a'
            obtain ⟨lb'⟩ := b'
            cases q1
            cases q2
            exact .func _ _ _ _ _ .nil .nil
        rcases opsA_run e with ⟨n, c, rfl, e1⟩ | ⟨r, off, n, d, rw0, ops, rfl, hn1, hg, hl, htk, e1⟩
        · rcases opsA_run e1 with ⟨n2, c2, rfl, e2⟩ | ⟨r2, off2, n2, d2, rw2, ops2, rfl, hn2, hg2, hl2, htk2, e2⟩
          · simp only [AM.run, Option.some.injEq, Prod.mk.injEq] at e2
            obtain ⟨rfl, rfl⟩ := e2
            have wc : WRel (subEmbL ρ []) (mkH []).den w := sub_WRelL wrm rfl (by decide) (fun i r off o hi => by simp at hi)
            refine Calls.mono (h00 _ w ⟨[x', y', z']⟩ (subEmbL_ro ρ []) wc (.cons _ _ _ _ (nil_rel hx) (.cons _ _ _ _ (nil_rel hy) (.cons _ _ _ _ (hz2 _) .nil)))) ?_
            rintro e w' ⟨rfl, hb⟩
            exact CallEnd.of_below wr hn (hF _ _) hb
          · simp only [AM.run, Option.some.injEq, Prod.mk.injEq] at e2
            obtain ⟨rfl, rfl⟩ := e2
            have wc := sub_WRel wrm hg2 htk2 (cellsOfOp_plain ops2) (opsO_of ops2)
            have := h01 ops2.length (fk ops2) (fs ops2) (fb ops2) (fn ops2) _ w ⟨[x', y', z']⟩ (by omega) (subEmb_ro ρ r2 off2) wc (.cons _ _ _ _ (nil_rel hx) (.cons _ _ _ _ (by rw [← hl2] at hy; exact sub_slice wrm hg2 hy) (.cons _ _ _ _ (hz2 _) .nil)))
            rw [opsL_get] at this
            refine Calls.mono this ?_
            rintro e w' ⟨rfl, hb⟩
            exact CallEnd.of_below wr hn (hF _ _) hb
        · rcases opsA_run e1 with ⟨n2, c2, rfl, e2⟩ | ⟨r2, off2, n2, d2, rw2, ops2, rfl, hn2, hg2, hl2, htk2, e2⟩
          · simp only [AM.run, Option.some.injEq, Prod.mk.injEq] at e2
            obtain ⟨rfl, rfl⟩ := e2
            have wc := sub_WRel wrm hg htk (cellsOfOp_plain ops) (opsO_of ops)
            have := h10 ops.length (fk ops) (fs ops) (fb ops) (fn ops) _ w ⟨[x', y', z']⟩ (by omega) (subEmb_ro ρ r off) wc (.cons _ _ _ _ (by rw [← hl] at hx; exact sub_slice wrm hg hx) (.cons _ _ _ _ (nil_rel hy) (.cons _ _ _ _ (hz2 _) .nil)))
            rw [opsL_get] at this
            refine Calls.mono this ?_
            rintro e w' ⟨rfl, hb⟩
            exact CallEnd.of_below wr hn (hF _ _) hb
          · simp only [AM.run, Option.some.injEq, Prod.mk.injEq] at e2
            obtain ⟨rfl, rfl⟩ := e2
            have wc : WRel (subEmbL ρ [(r, off), (r2, off2)]) (mkH [opsO ops.length (fk ops) (fs ops) (fb ops) (fn ops), opsO ops2.length (fk ops2) (fs ops2) (fb ops2) (fn ops2)]).den w := by
              refine sub_WRelL wrm rfl (by simp [most]) fun i r' off' o hi ho => ?_
              match i, hi, ho with
              | 0, hi, ho =>
                simp only [List.getElem?_cons_zero, Option.some.injEq, Prod.mk.injEq] at hi ho
                obtain ⟨rfl, rfl⟩ := hi
                subst ho
                exact ⟨d, _, rw0, hg, htk, cellsOfOp_plain ops, opsO_of ops⟩
              | 1, hi, ho =>
                simp only [List.getElem?_cons_succ, List.getElem?_cons_zero, Option.some.injEq, Prod.mk.injEq] at hi ho
                obtain ⟨rfl, rfl⟩ := hi
                subst ho
                exact ⟨d2, _, rw2, hg2, htk2, cellsOfOp_plain ops2, opsO_of ops2⟩
              | i + 2, hi, ho => simp at hi
            have := h11 ops.length (fk ops) (fs ops) (fb ops) (fn ops) ops2.length (fk ops2) (fs ops2) (fb ops2) (fn ops2) _ w ⟨[x', y', z']⟩ (by omega) (by omega) (subEmbL_ro ρ _) wc
              (.cons _ _ _ _ (by rw [← hl] at hx; exact sub_sliceL wrm (i := 0) rfl hg hx) (.cons _ _ _ _ (by rw [← hl2] at hy; exact sub_sliceL wrm (i := 1) rfl hg2 hy) (.cons _ _ _ _ (hz2 _) .nil)))
            rw [opsL_get, opsL_get] at this
            refine Calls.mono this ?_
            rintro e w' ⟨rfl, hb⟩
            exact CallEnd.of_below wr hn (hF _ _) hb
end Go.Ev
end
section
/-! Functions of a script that are told only where something holds. -/
namespace Go.Ev
open Go.RowKit
noncomputable def scrGA (G : SetD → List OpD → Bool) (F : SetD → List OpD → Value) (args : List Value) (_ : Nat) : AM Value :=
  match args with
  | [a] => match scrOf a with
    | some (g, o) => opsA o fun ops => bif G g ops then .ret (F g ops) else .fail
    | none => .fail
  | _ => .fail
noncomputable def scrGSym (G : SetD → List OpD → Bool) (F : SetD → List OpD → SV) (args : List SV) (_ : Nat) : SM SV :=
  match args with
  | [a] => match scrOfS a with
    | some (g, o) => opsSym o fun ops => .node (G g ops) (.ret (F g ops)) .fail
    | none => .fail
  | _ => .fail
theorem scrG_hom {G : SetD → List OpD → Bool} {F : SetD → List OpD → SV} {F' : SetD → List OpD → Value} (h : ∀ g ops, (F g ops).den = F' g ops) : ∀ args id, Hom HV (scrGSym G F args id) (scrGA G F' (dens args) id) := by
  intro args id
  unfold scrGSym scrGA
  match args with
  | [] => exact .fail _
  | _ :: _ :: _ => exact .fail _
  | [a] =>
    simp only [dens]
    cases ha : scrOfS a with
    | none => exact .fail _
    | some p =>
      obtain ⟨g, o⟩ := p
      rw [(scrOfS_den ha).1]
      refine opsSym_hom (fun ops => ?_) o
      refine .node _ _ _ _ (fun hg => ?_) fun _ => .fail _
      rw [hg]
      exact .ret _ _ (h g ops).symm
/-- A function of a script, from what it does where there are no ops, and where there are some. -/
theorem scrG_tab {P : Program} {f : FuncId} {G : SetD → List OpD → Bool} {F : SetD → List OpD → Value} (hF : ∀ g ops, plainR (F g ops) = true)
    (hnil : ∀ g w, G g [] = true → Calls P f (dens [scrS g nilO]).toArray w fun e w' => e = .returned (F g []) ∧ Below w.heap.size w w')
    (harr : ∀ g len k s b n ρ w args', G g (opsL len k s b n) = true → len ≤ 70368744177664 → (∀ i g, ρ i = .img g → g.rw = false) → WRel ρ (mkH [opsO len k s b n]).den w → VsRel ρ (dens [scrS g (slO len)]) (Array.toList args') →
      Calls P f args' w fun e w' => e = .returned (F g (opsL len k s b n)) ∧ Below w.heap.size w w') : TabOK P f (scrGA G F) := by
  intro ρ hh w args args' v h1 wr ra e
  obtain ⟨hn, e⟩ := tabF_some e
  obtain ⟨la⟩ := args'
  simp only at ra
  unfold scrGA at e
  match args, ra, e with
  | [], _, e => cases e
  | _ :: _ :: _, _, e => cases e
  | [a], ra, e =>
    simp only at e
    cases ha : scrOf a with
    | none => rw [ha] at e; cases e
    | some p =>
      obtain ⟨g, o⟩ := p
      rw [ha] at e
      simp only at e
      have hv := scrOf_spec ha
      subst hv
      unfold opsA at e
      split at e
      · simp only at e
        cases hG : G g [] with
        | false => rw [hG] at e; cases e
        | true =>
        rw [hG] at e
        simp only [cond_true, AM.run, Option.some.injEq, Prod.mk.injEq] at e
        obtain ⟨rfl, rfl⟩ := e
        have hz : la = dens [scrS g nilO] := by
          cases ra with
          | cons x x' l l' hx ht =>
            cases ht
            cases hx with
            | agg y y' hr =>
              obtain ⟨ta, tv, e1, e2, e3⟩ := hr.last
              have e4 := plains_eq _ _ (set_plain g) e2
              cases e3
              subst e4
              show [Value.agg y'] = [Value.agg _]
              congr 2
              apply Array.toList_inj.1
              rw [e1]
              rfl
        subst hz
        refine Calls.mono (hnil g w hG) ?_
        rintro e w' ⟨rfl, hb⟩
        exact CallEnd.of_below wr hn (hF _ _) hb
      · rename_i x n c _
        cases hok : (okAt x && Nat.beq c 4) with
        | false => rw [hok] at e; cases e
        | true =>
          rw [hok] at e
          simp only [cond_true, AM.run] at e
          simp only [Bool.and_eq_true] at hok
          have hc : c = 4 := Nat.eq_of_beq_eq_true hok.2
          subst hc
          obtain ⟨ab, ao, asp⟩ := x
          have hsp : asp = none := by have := hok.1; simpa [okAt] using this
          subst hsp
          have wrm := wr.more hn
          cases hg : (hh.more 1).get ab with
          | none => simp only [hg] at e; cases e
          | some oo =>
            simp only [hg] at e
            cases hbn : Nat.ble n 70368744177664 with
            | false => rw [hbn] at e; cases e
            | true =>
            rw [hbn] at e
            simp only [cond_true] at e
            cases oo with
            | amap _ => cases e
            | dead => cases e
            | cells d rw0 =>
              simp only [readA] at e
              cases ht : takeCells d ao (Nat.mul n 4) with
              | none => rw [ht] at e; cases e
              | some l =>
                rw [ht] at e
                simp only at e
                cases hd : decOps n l with
                | none => rw [hd] at e; cases e
                | some ops =>
                  rw [hd] at e
                  simp only at e
                  cases hG : G g ops with
                  | false => rw [hG] at e; cases e
                  | true =>
                  rw [hG] at e
                  simp only [cond_true, AM.run, Option.some.injEq, Prod.mk.injEq] at e
                  obtain ⟨rfl, rfl⟩ := e
                  obtain ⟨hl1, hl2⟩ := decOps_spec n l ops hd
                  have hlen : l.length = n * 4 := by
                    rw [hl2, ← hl1]
                    exact cellsOfOp_length ops
                  have ht' : takeCells d ao l.length = some l := by rw [hlen]; exact ht
                  have hod : (opsO n (fk ops) (fs ops) (fb ops) (fn ops)).den = .cells l false := by
                    simp only [SObj.den]
                    rw [arr_ops, ← hl1, opsL_get, ← hl2]
                  have wc := sub_WRel wrm hg ht' (by rw [hl2]; exact cellsOfOp_plain ops) hod
                  have ra2 : VsRel (subEmb ρ ab ao) (dens [scrS g (slO n)]) la := by
                    cases ra with
                    | cons x x' l l' hx ht =>
                      cases ht
                      cases hx with
                      | agg y y' hr =>
                        refine .cons _ _ _ _ (.agg _ _ ?_) .nil
                        obtain ⟨ta, tv, e1, e2, e3⟩ := hr.last
                        rw [e1]
                        have e5 : (dens (g.sv ++ [slO n])).toArray.toList = dens g.sv ++ [SV.den (slO n)] := by simp [dens]
                        rw [e5]
                        refine VsRel.append ?_ (.one (sub_slice wrm hg e3))
                        rw [plains_eq _ _ (set_plain g) e2]
                        exact plains_rel (set_plain g)
                  have := harr g n (fk ops) (fs ops) (fb ops) (fn ops) _ w ⟨la⟩ (by rw [← hl1, opsL_get]; exact hG) (nat_ble hbn) (subEmb_ro ρ ab ao) wc ra2
                  rw [← hl1, opsL_get] at this
                  refine Calls.mono this ?_
                  rintro e w' ⟨rfl, hb⟩
                  exact CallEnd.of_below wr hn (hF _ _) hb
      · cases e
end Go.Ev
end
section
/-! Scripts among the arguments: as they are read, and as the walk wants them. -/
namespace Go.Ev
open Go.ChangeShapes Go.WideShapes Go.RowKit
/-- These slots, then a dead one. -/
def wEmb (l : List Slot) : Emb := fun i => match l[i]? with
  | some s => s
  | none => if i = l.length then .dead else .free
theorem wEmb_at {l : List Slot} {i : Nat} {s : Slot} (h : l[i]? = some s) : wEmb l i = s := by unfold wEmb; rw [h]
theorem wEmb_ro {l : List Slot} (h : ∀ s ∈ l, ∀ g, s = .img g → g.rw = false) : ∀ i g, wEmb l i = .img g → g.rw = false := by
  intro i g hi
  unfold wEmb at hi
  split at hi
  · rename_i s hs
    exact h s (List.mem_of_getElem? hs) g hi
  · split at hi <;> cases hi
theorem wEmb_WRel {w : World} {l : List Slot} {O : List SObj} (hl : O.length = l.length) (hm : O.length < most) (hro : ∀ s ∈ l, ∀ g, s = .img g → g.rw = false)
    (hO : ∀ (i : Nat) (s : Slot) (o : SObj), l[i]? = some s → O[i]? = some o → o.den ≠ .dead ∧ ObjAt (wEmb l) w s o.den) : WRel (wEmb l) (mkH O).den w := by
  refine ⟨mkH_ok hm, fun i => ?_, fun i j gi gj _ hi _ hr => by rw [wEmb_ro hro i gi hi] at hr; cases hr⟩
  rw [SH.den_get, mkH_get hm]
  by_cases h1 : i = O.length
  · rw [if_pos h1]
    show wEmb l i = .dead
    unfold wEmb
    rw [List.getElem?_eq_none (by omega), h1]
    simp [hl]
  · rw [if_neg h1]
    cases ho : O[i]? with
    | none =>
      show wEmb l i = .free
      have : O.length ≤ i := by simpa using ho
      unfold wEmb
      rw [List.getElem?_eq_none (by omega)]
      simp only
      rw [if_neg (by omega)]
    | some o =>
      have hil : i < l.length := by rw [← hl]; exact (List.getElem?_eq_some_iff.1 ho).1
      have hs' : l[i]? = some l[i] := List.getElem?_eq_getElem hil
      obtain ⟨hd, ha⟩ := hO i l[i] o hs' ho
      have he := wEmb_at hs'
      have ha2 : ObjAt (wEmb l) w (wEmb l i) o.den := by rw [he]; exact ha
      simp only [Option.map_some]
      cases hod : o.den with
      | dead => exact absurd hod hd
      | cells c rw => rw [hod] at ha2; exact ha2
      | amap es => rw [hod] at ha2; exact ha2
/-- A slice of ops, in a world. -/
def OpsW (w : World) (o : Value) (ops : List OpD) (s : Slot) : Prop :=
  ∃ (a : Addr) (len cap : Nat), o = .slice (some a) len cap ∧ ops.length = len ∧ len ≤ cap ∧ len ≤ 70368744177664 ∧
    ((s = .dead ∧ ops = []) ∨ ∃ c e fz, s = .img ⟨a.block, a.off, c.size, false⟩ ∧ a.spot = none ∧ w.heap[a.block]? = some (.cells c e fz) ∧ a.off + cap * 4 ≤ c.size ∧ ∀ j v, (ops.flatMap cellsOfOp)[j]? = some v → c[a.off + j]? = some v)
theorem OpsW.ro {w : World} {o : Value} {ops : List OpD} {s : Slot} (h : OpsW w o ops s) : ∀ g, s = .img g → g.rw = false := by
  intro g hg
  obtain ⟨a, len, cap, _, _, _, _, ⟨h1, _⟩ | ⟨c, e, fz, h1, _⟩⟩ := h
  · rw [h1] at hg; cases hg
  · rw [h1] at hg; cases hg; rfl
theorem OpsW.len {w : World} {o : Value} {ops : List OpD} {s : Slot} (h : OpsW w o ops s) : ops.length ≤ 70368744177664 := by
  obtain ⟨a, len, cap, _, h1, _, h2, _⟩ := h
  omega
theorem OpsW.at {w : World} {o : Value} {ops : List OpD} {s : Slot} (h : OpsW w o ops s) (ρ : Emb) : (opsO ops.length (fk ops) (fs ops) (fb ops) (fn ops)).den ≠ .dead ∧ ObjAt ρ w s (opsO ops.length (fk ops) (fs ops) (fb ops) (fn ops)).den := by
  rw [opsO_of]
  refine ⟨(fun h => by cases h), ?_⟩
  obtain ⟨a, len, cap, _, h1, h2, _, ⟨h3, h4⟩ | ⟨c, e, fz, h3, h4, h5, h6, h7⟩⟩ := h
  · exact .inr ⟨h3, by rw [h4]; rfl⟩
  · refine .inl ⟨_, h3, rfl, c, e, fz, h5, rfl, ?_, fun j v hj => ⟨v, h7 j v hj, plain1_rel (List.all_eq_true.1 (cellsOfOp_plain ops) v (List.mem_of_getElem? hj))⟩, fun hf => by cases hf⟩
    rw [cellsOfOp_length]
    simp only
    have : len * 4 ≤ cap * 4 := Nat.mul_le_mul_right 4 h2
    omega
theorem OpsW.rel {w : World} {o : Value} {ops : List OpD} {s : Slot} (h : OpsW w o ops s) {ρ : Emb} {i : Nat} (hi : ρ i = s) : VRel ρ (SV.den (slP i ops.length)) o := by
  obtain ⟨a, len, cap, rfl, h1, h2, _, h3⟩ := h
  subst h1
  show VRel ρ (.slice (some ⟨i, 0, none⟩) ops.length 4) _
  refine .sl _ a _ _ cap ⟨?_, rfl, h2, fun g hg => ?_⟩
  · show ρ i ≠ .free
    rw [hi]
    rcases h3 with ⟨h3, _⟩ | ⟨c, e, fz, h3, _⟩ <;> rw [h3] <;> simp
  · have hg : ρ i = .img g := hg
    rw [hi] at hg
    rcases h3 with ⟨h3, _⟩ | ⟨c, e, fz, h3, h4, h5, h6, _⟩
    · rw [h3] at hg; cases hg
    · rw [h3] at hg
      cases hg
      exact .inr ⟨h4, rfl, rfl, h6⟩
/-- A script, in a world. -/
def ScrW (w : World) (x : Value) (g : SetD) (ops : List OpD) : Prop := ∃ o, x = .agg (dens g.sv ++ [o]).toArray ∧ ((o = .slice none 0 0 ∧ ops = []) ∨ ∃ s, OpsW w o ops s)
theorem scrW_rel {ρ : Emb} {g : SetD} {s : SV} {o : Value} (h : VRel ρ s.den o) : VRel ρ (scrS g s).den (.agg (dens g.sv ++ [o]).toArray) := by
  have e : (scrS g s).den = .agg (dens (g.sv ++ [s])).toArray := rfl
  rw [e]
  refine .agg _ _ ?_
  have e5 : (dens (g.sv ++ [s])).toArray.toList = dens g.sv ++ [SV.den s] := by simp [dens]
  rw [e5]
  exact VsRel.append (plains_rel (set_plain g)) (.one h)
theorem nilW_rel {ρ : Emb} {g : SetD} : VRel ρ (scrS g nilO).den (.agg (dens g.sv ++ [Value.slice none 0 0]).toArray) := scrW_rel .slNil

/-! Reading. -/
theorem cell_int {P : Program} {w : World} {r : Reach} {b : Nat} {u : TypeId} {k : IntKind} {v : Value} (hu : P.underlying u = some (.int k)) (h : Cell.okWide P w r b u v) : ∃ n, v = .int k n ∧ k.has n := by
  unfold Cell.okWide Cell.ok at h
  rw [hu] at h
  cases v <;> simp_all
theorem cell_bool {P : Program} {w : World} {r : Reach} {b : Nat} {u : TypeId} {v : Value} (hu : P.underlying u = some .bool) (h : Cell.okWide P w r b u v) : ∃ n, v = .bool n := by
  unfold Cell.okWide Cell.ok at h
  rw [hu] at h
  cases v <;> simp_all
theorem flat_get : ∀ (l : List OpD) (j : Nat) (v : Value), (l.flatMap cellsOfOp)[j]? = some v → ∃ i k op, j = i * 4 + k ∧ l[i]? = some op ∧ (cellsOfOp op)[k]? = some v
  | [], j, v, h => by simp at h
  | o :: l, j, v, h => by
    rw [List.flatMap_cons] at h
    have h4 : (cellsOfOp o).length = 4 := rfl
    by_cases hj : j < 4
    · rw [List.getElem?_append_left (by omega)] at h
      exact ⟨0, j, o, by omega, rfl, h⟩
    · rw [List.getElem?_append_right (by omega), h4] at h
      obtain ⟨i, k, op, e, h1, h2⟩ := flat_get l (j - 4) v h
      exact ⟨i + 1, k, op, by omega, by simpa using h1, h2⟩
theorem mem_weightsAll {H : Type} {P : Program} {e : TypeId} : ∀ {l : List (DataW H)} {d : DataW H}, d ∈ l → ∀ n ∈ d.weights P e, n ∈ DataW.weightsAll P e l
  | d0 :: l, d, hd, n, hn => by
    unfold DataW.weightsAll
    rcases List.mem_cons.1 hd with rfl | hd
    · exact List.mem_append.2 (.inl hn)
    · exact List.mem_append.2 (.inr (mem_weightsAll hd n hn))
section
variable {H : Type} {enc : TypeId × Value → H} {P : Program} {w : World} {base : Nat} {held : Bool}
/-- What is asked of the type of an op. -/
structure OpT (P : Program) (e : TypeId) (o0 o1 o2 o3 : Field) : Prop where
  he : P.underlying e = some (.struct #[o0, o1, o2, o3])
  one : Go.Deep.oneCellFields P #[o0, o1, o2, o3] = true
  cells : P.cellsOf e = 4
  bytes : P.bytesOf e = 40
  u0 : P.underlying o0.type = some (.int .i64)
  u1 : P.underlying o1.type = some (.int .i64)
  u2 : P.underlying o2.type = some .string
  u3 : P.underlying o3.type = some (.int .i64)
/-- One op, read. -/
theorem open_op {e : TypeId} {o0 o1 o2 o3 : Field} (T : OpT P e o0 o1 o2 o3) {sp : Nat → Bool} {n : Nat} {a : Addr} {cs : List Value} {x : DataW H × List MemPlace} (hc : w.cells? base a 4 = some cs) (ht : DataW.trod enc P w base sp held n e cs = some x) :
    ∃ op : OpD, (∀ k v, (cellsOfOp op)[k]? = some v → w.cell? (a.add k) = some v) ∧ x.1 = .agg [.lit (.int .i64 op.k), .lit (.int .i64 op.s), .lit (.string op.b.data.toList), .lit (.int .i64 op.n)] := by
  obtain ⟨_, hl, hcell⟩ := World.cells?_some hc
  obtain ⟨xs, m, _, rfl, _, hxl, hf⟩ := DataW.trod_struct T.he ht
  match cs, hl with
  | [c0, c1, c2, c3], _ =>
    match xs, hxl with
    | [y0, y1, y2, y3], _ =>
      obtain ⟨p0, q0⟩ := Go.Deep.hone_of T.one 0 o0 rfl
      obtain ⟨p1, q1⟩ := Go.Deep.hone_of T.one 1 o1 rfl
      obtain ⟨p2, q2⟩ := Go.Deep.hone_of T.one 2 o2 rfl
      obtain ⟨p3, q3⟩ := Go.Deep.hone_of T.one 3 o3 rfl
      have f0 : DataW.trod enc P w base sp held m o0.type [c0] = some y0 := by simpa [p0, q0] using hf 0 o0 rfl
      have f1 : DataW.trod enc P w base sp held m o1.type [c1] = some y1 := by simpa [p1, q1] using hf 1 o1 rfl
      have f2 : DataW.trod enc P w base sp held m o2.type [c2] = some y2 := by simpa [p2, q2] using hf 2 o2 rfl
      have f3 : DataW.trod enc P w base sp held m o3.type [c3] = some y3 := by simpa [p3, q3] using hf 3 o3 rfl
      obtain ⟨k, e0, rfl, _⟩ := DataW.trod_int T.u0 f0
      obtain ⟨s, e1, rfl, _⟩ := DataW.trod_int T.u1 f1
      obtain ⟨b, e2, rfl, _⟩ := DataW.trod_string T.u2 f2
      obtain ⟨z, e3, rfl, _⟩ := DataW.trod_int T.u3 f3
      simp only [List.cons.injEq, and_true] at e0 e1 e2 e3
      subst e0 e1 e2 e3
      refine ⟨⟨k, s, b, z⟩, fun i v hv => ?_, rfl⟩
      have hi : i < 4 := (List.getElem?_eq_some_iff.1 hv).1
      rw [hcell i hi]
      exact hv
/-- A slice of ops, read. -/
theorem open_ops {t e : TypeId} {o0 o1 o2 o3 : Field} (ht : P.underlying t = some (.slice e)) (T : OpT P e o0 o1 o2 o3) {n : Nat} {c : Value} {x : DataW H × List MemPlace} (h : DataW.trod enc P w base (fun _ => true) held n t [c] = some x)
    (hz : ∀ k ∈ x.1.weights P t, k ≤ reachBytes) : ∃ ops : List OpD, ((c = .slice none 0 0 ∧ ops = []) ∨ ∃ s, OpsW w c ops s) ∧ ∀ op ∈ ops, op.b.size ≤ 140737488355328 := by
  rcases Go.Deep.open_slice ht h with ⟨h0, _⟩ | ⟨a, len, cap, m, n', D, Pl, hcs, _, hl, _, hm, hx, hi⟩
  · simp only [List.cons.injEq, and_true] at h0
    exact ⟨[], .inl ⟨h0, rfl⟩, fun _ h => by cases h⟩
  · simp only [List.cons.injEq, and_true] at hcs
    simp only [if_true] at hm
    subst hm
    have key : ∀ i, ∃ op : OpD, i < m → (∀ k v, (cellsOfOp op)[k]? = some v → w.cell? (a.add (i * 4 + k)) = some v) ∧ D i = .agg [.lit (.int .i64 op.k), .lit (.int .i64 op.s), .lit (.string op.b.data.toList), .lit (.int .i64 op.n)] := by
      intro i
      by_cases him : i < m
      · obtain ⟨cs', h1, h2⟩ := hi i him
        rw [T.cells] at h1
        obtain ⟨op, h3, h4⟩ := open_op T h1 h2
        exact ⟨op, fun _ => ⟨fun k v hk => by rw [← Go.Deep.add_add]; exact h3 k v hk, h4⟩⟩
      · exact ⟨⟨0, 0, ⟨#[]⟩, 0⟩, fun h => absurd h him⟩
    obtain ⟨f, hf⟩ := Classical.axiomOfChoice key
    subst hx
    simp only [DataW.weights, ht] at hz
    have hlen : (len + (m - len)) * 40 ≤ reachBytes := by
      have := hz _ (List.mem_cons_self ..)
      rw [T.bytes] at this
      simpa using this
    have hr : reachBytes < 140737488355328 := reachBytes_lt
    refine ⟨(List.range len).map f, .inr ?_, fun op hop => ?_⟩
    · by_cases h0 : m = 0
      · have : len = 0 := by omega
        subst this
        exact ⟨.dead, a, 0, m, hcs, rfl, hl, by omega, .inl ⟨rfl, rfl⟩⟩
      · have hc0 := (hf 0 (by omega)).1 0 _ rfl
        rw [show 0 * 4 + 0 = 0 from rfl] at hc0
        have hspot : a.spot = none := by simpa [Addr.add] using World.cell?_spot hc0
        obtain ⟨b, o, sp⟩ := a
        simp only at hspot
        subst hspot
        rw [add_none] at hc0
        have hb : ∃ c e fz, w.heap[b]? = some (.cells c e fz) := by
          unfold World.cell? at hc0
          simp only at hc0
          split at hc0
          · rename_i c e fz hq
            exact ⟨c, e, fz, hq⟩
          · cases hc0
        obtain ⟨c', e', fz, hb⟩ := hb
        have hcell : ∀ i k v, i < m → (cellsOfOp (f i))[k]? = some v → c'[o + (i * 4 + k)]? = some v := by
          intro i k v him hk
          have := (hf i him).1 k v hk
          rw [add_none, cell_of hb] at this
          exact this
        refine ⟨.img ⟨b, o, c'.size, false⟩, ⟨b, o, none⟩, len, m, hcs, by simp, hl, by omega, .inr ⟨c', e', fz, rfl, rfl, hb, ?_, fun j v hj => ?_⟩⟩
        · have := hcell (m - 1) 3 _ (by omega) rfl
          have hlt : o + ((m - 1) * 4 + 3) < c'.size := by
            rcases Nat.lt_or_ge (o + ((m - 1) * 4 + 3)) c'.size with h | h
            · exact h
            · rw [Array.getElem?_eq_none h] at this; cases this
          simp only
          omega
        · obtain ⟨i, k, op, rfl, h1, h2⟩ := flat_get _ j v hj
          rw [List.getElem?_map] at h1
          have hil : i < len := by
            rcases Nat.lt_or_ge i len with h | h
            · exact h
            · rw [List.getElem?_eq_none (by simpa using h)] at h1; cases h1
          rw [List.getElem?_range hil] at h1
          simp only [Option.map_some, Option.some.injEq] at h1
          subst h1
          exact hcell i k v (by omega) h2
    · rw [List.mem_map] at hop
      obtain ⟨i, hir, rfl⟩ := hop
      have hil : i < len := List.mem_range.1 hir
      have hD := (hf i (by omega)).2
      have hmem : (f i).b.data.toList.length ∈ (D i).weights P e := by
        rw [hD]
        simp [DataW.weights, DataW.weightsEach, T.he]
      have := hz _ (List.mem_cons_of_mem _ (List.mem_append.2 (.inl (mem_weightsAll (List.mem_map.2 ⟨i, hir, rfl⟩) _ hmem))))
      have e1 : (f i).b.size = (f i).b.data.toList.length := by rw [Array.length_toList]; rfl
      omega
/-- What is asked of the type of a script. -/
structure ScrT (P : Program) (t : TypeId) (f0 f1 : Field) (e : TypeId) (o0 o1 o2 o3 : Field) : Prop where
  hs : P.underlying t = some (.struct #[f0, f1])
  cells : P.cellsOf t = 12
  off : f1.offset = 11
  one : P.cellsOf f1.type = 1
  flat : (P.cellTypes P.depth t).map (·.map P.underlying) = some [some (.int .i64), some .bool, some (.int .i64), some .bool, some (.int .i64), some .bool, some (.int .i64), some (.int .i64), some (.int .i64), some (.int .i64), some (.int .i64), some (.slice e)]
  sl : P.underlying f1.type = some (.slice e)
  op : OpT P e o0 o1 o2 o3
abbrev i64In (n : Int) : Prop := -9223372036854775808 ≤ n ∧ n ≤ 9223372036854775807
theorem has_i64 {n : Int} (h : IntKind.i64.has n) : i64In n := by
  unfold IntKind.has at h
  have e1 : IntKind.i64.min = -9223372036854775808 := by decide
  have e2 : IntKind.i64.max = 9223372036854775807 := by decide
  rw [e1, e2] at h
  exact h
/-- A script, read. -/
theorem open_script {t : TypeId} {f0 f1 : Field} {e : TypeId} {o0 o1 o2 o3 : Field} (T : ScrT P t f0 f1 e o0 o1 o2 o3) {v : Value} {d : DataW H} {p : List MemPlace} {b0 : Nat}
    (hv : Value.okWide P w .any b0 t v) (h : DataW.Trod enc P w base (fun _ => true) held t v d p) (hz : ∀ k ∈ d.weights P t, k ≤ reachBytes) :
    ∃ (g : SetD) (ops : List OpD), ScrW w v g ops ∧ i64In g.gx ∧ i64In g.gy ∧ i64In g.dt ∧ ∀ op ∈ ops, op.b.size ≤ 140737488355328 := by
  unfold Value.okWide at hv
  rw [T.hs] at hv
  obtain ⟨cs, rfl, hsz, ts, hts, _, hcell⟩ := hv
  have hfl := T.flat
  rw [hts] at hfl
  simp only [Option.map_some, Option.some.injEq] at hfl
  have htl : ts.length = 12 := by
    have := congrArg List.length hfl
    simpa using this
  rw [T.cells] at hsz
  obtain ⟨l⟩ := cs
  match l, hsz with
  | [c0, c1, c2, c3, c4, c5, c6, c7, c8, c9, c10, c11], _ =>
    have key : ∀ (i : Nat) c, ([c0, c1, c2, c3, c4, c5, c6, c7, c8, c9, c10, c11] : List Value)[i]? = some c → ∃ u, (ts.map P.underlying)[i]? = some (P.underlying u) ∧ Cell.okWide P w .any b0 u c := by
      intro i c hc
      have hi : i < 12 := (List.getElem?_eq_some_iff.1 hc).1
      obtain ⟨u, h1, h2⟩ := hcell i c (by simpa using hc)
      rw [htl, Nat.mod_eq_of_lt hi] at h1
      exact ⟨u, by rw [List.getElem?_map, h1]; rfl, h2⟩
    rw [hfl] at key
    obtain ⟨u0, e0, k0⟩ := key 0 c0 rfl
    obtain ⟨u1, e1, k1⟩ := key 1 c1 rfl
    obtain ⟨u2, e2, k2⟩ := key 2 c2 rfl
    obtain ⟨u3, e3, k3⟩ := key 3 c3 rfl
    obtain ⟨u4, e4, k4⟩ := key 4 c4 rfl
    obtain ⟨u5, e5, k5⟩ := key 5 c5 rfl
    obtain ⟨u6, e6, k6⟩ := key 6 c6 rfl
    obtain ⟨u7, e7, k7⟩ := key 7 c7 rfl
    obtain ⟨u8, e8, k8⟩ := key 8 c8 rfl
    obtain ⟨u9, e9, k9⟩ := key 9 c9 rfl
    obtain ⟨u10, e10, k10⟩ := key 10 c10 rfl
    obtain ⟨z0, rfl, r0⟩ := cell_int (Option.some.inj e0).symm k0
    obtain ⟨z1, rfl⟩ := cell_bool (Option.some.inj e1).symm k1
    obtain ⟨z2, rfl, r2⟩ := cell_int (Option.some.inj e2).symm k2
    obtain ⟨z3, rfl⟩ := cell_bool (Option.some.inj e3).symm k3
    obtain ⟨z4, rfl, r4⟩ := cell_int (Option.some.inj e4).symm k4
    obtain ⟨z5, rfl⟩ := cell_bool (Option.some.inj e5).symm k5
    obtain ⟨z6, rfl, r6⟩ := cell_int (Option.some.inj e6).symm k6
    obtain ⟨z7, rfl, r7⟩ := cell_int (Option.some.inj e7).symm k7
    obtain ⟨z8, rfl, r8⟩ := cell_int (Option.some.inj e8).symm k8
    obtain ⟨z9, rfl, r9⟩ := cell_int (Option.some.inj e9).symm k9
    obtain ⟨z10, rfl, r10⟩ := cell_int (Option.some.inj e10).symm k10
    obtain ⟨fuel, hf⟩ := h
    obtain ⟨xs, n, _, hx, _, hxl, hg⟩ := DataW.trod_struct T.hs hf
    match xs, hxl with
    | [y0, y1], _ =>
      have h1 := hg 1 f1 rfl
      rw [T.off, T.one] at h1
      have h1 : DataW.trod enc P w base (fun _ => true) held n f1.type [c11] = some y1 := by simpa [Value.cells] using h1
      have hd : d = .agg [y0.1, y1.1] := by
        have := congrArg Prod.fst hx
        simpa using this
      have hz1 : ∀ k ∈ y1.1.weights P f1.type, k ≤ reachBytes := by
        intro k hk
        refine hz k ?_
        rw [hd]
        simp only [DataW.weights, T.hs, List.map_cons, List.map_nil, DataW.weightsEach, List.append_nil]
        exact List.mem_append.2 (.inr hk)
      obtain ⟨ops, ho, hb⟩ := open_ops T.sl T.op h1 hz1
      exact ⟨⟨z0, z1, z2, z3, z4, z5, z6, z7, z8, z9, z10⟩, ops, ⟨c11, rfl, ho⟩, has_i64 r0, has_i64 r2, has_i64 r4, hb⟩
end
end Go.Ev
end

import Derived.Test.YtjgnjjaofaapjaaGreatEvTrie
namespace Go.Ev

/-- Where an object of the small heap lies: its block, the cell at which it begins, how many cells the block has, and whether it may be written. -/
structure Img where
  b : Nat
  base : Nat
  n : Nat
  rw : Bool

inductive Slot where
  | free
  | dead
  | img (g : Img)

abbrev Emb := Nat → Slot

def AddrRel (ρ : Emb) (a a' : Addr) : Prop :=
  ρ a.block ≠ .free ∧ a.spot = none ∧ ∀ g, ρ a.block = .img g → a'.spot = none ∧ a'.block = g.b ∧ a'.off = g.base + a.off

def SliceRel (ρ : Emb) (a : Addr) (len s : Nat) (a' : Addr) (cap' : Nat) : Prop :=
  ρ a.block ≠ .free ∧ a.spot = none ∧ len ≤ cap' ∧
    ∀ g, ρ a.block = .img g → (len = 0 ∧ cap' = 0) ∨ (a'.spot = none ∧ a'.block = g.b ∧ a'.off = g.base + a.off ∧ a'.off + cap' * s ≤ g.n)

def MapAt (ρ : Emb) (r r' : Nat) : Prop := ρ r ≠ .free ∧ ∀ g, ρ r = .img g → r' = g.b

mutual
inductive VRel (ρ : Emb) : Value → Value → Prop
  | bool (b : Bool) : VRel ρ (.bool b) (.bool b)
  | int (k : IntKind) (n : Int) : VRel ρ (.int k n) (.int k n)
  | string (s : ByteArray) : VRel ρ (.string s) (.string s)
  | ptrNil : VRel ρ (.pointer none) (.pointer none)
  | ptr (a a' : Addr) (h : AddrRel ρ a a') : VRel ρ (.pointer (some a)) (.pointer (some a'))
  | slNil : VRel ρ (.slice none 0 0) (.slice none 0 0)
  | sl (a a' : Addr) (len c cap' : Nat) (h : SliceRel ρ a len c a' cap') : VRel ρ (.slice (some a) len c) (.slice (some a') len cap')
  | mapNil : VRel ρ (.map none) (.map none)
  | map (r r' : Nat) (h : MapAt ρ r r') : VRel ρ (.map (some r)) (.map (some r'))
  | func (fn : Fn) (a b a' b' : Array Value) (h1 : VsRel ρ a.toList a'.toList) (h2 : VsRel ρ b.toList b'.toList) : VRel ρ (.func fn a b) (.func fn a' b')
  | nilFunc : VRel ρ .nilFunc .nilFunc
  | nilIface : VRel ρ .nilIface .nilIface
  | iface (t : TypeId) (v v' : Value) (h : VRel ρ v v') : VRel ρ (.iface t v) (.iface t v')
  | agg (a a' : Array Value) (h : VsRel ρ a.toList a'.toList) : VRel ρ (.agg a) (.agg a')
  | tuple (a a' : Array Value) (h : VsRel ρ a.toList a'.toList) : VRel ρ (.tuple a) (.tuple a')
inductive VsRel (ρ : Emb) : List Value → List Value → Prop
  | nil : VsRel ρ [] []
  | cons (v v' : Value) (l l' : List Value) (h : VRel ρ v v') (t : VsRel ρ l l') : VsRel ρ (v :: l) (v' :: l')
end

/-- What was there is there still, or is dead. -/
def Ext (ρ ρ' : Emb) : Prop := ∀ i, ρ i ≠ .free → ρ' i = ρ i ∨ ρ' i = .dead

theorem Ext.refl (ρ : Emb) : Ext ρ ρ := fun _ _ => .inl rfl
theorem Ext.ne_free {ρ ρ' : Emb} (h : Ext ρ ρ') {i : Nat} (hi : ρ i ≠ .free) : ρ' i ≠ .free := by
  rcases h i hi with e | e
  · rw [e]; exact hi
  · rw [e]; simp
theorem Ext.img {ρ ρ' : Emb} (h : Ext ρ ρ') {i : Nat} (hi : ρ i ≠ .free) {g : Img} (hg : ρ' i = .img g) : ρ i = .img g := by
  rcases h i hi with e | e
  · rw [← e]; exact hg
  · rw [e] at hg; cases hg
theorem Ext.trans {a b c : Emb} (h : Ext a b) (k : Ext b c) : Ext a c := by
  intro i hi
  rcases h i hi with e | e
  · rcases k i (by rw [e]; exact hi) with e' | e'
    · exact .inl (e'.trans e)
    · exact .inr e'
  · rcases k i (by rw [e]; simp) with e' | e'
    · exact .inr (e'.trans e)
    · exact .inr e'

theorem AddrRel.mono {ρ ρ' : Emb} (x : Ext ρ ρ') {a a' : Addr} (h : AddrRel ρ a a') : AddrRel ρ' a a' :=
  ⟨x.ne_free h.1, h.2.1, fun g hg => h.2.2 g (x.img h.1 hg)⟩
theorem SliceRel.mono {ρ ρ' : Emb} (x : Ext ρ ρ') {a a' : Addr} {n s c : Nat} (h : SliceRel ρ a n s a' c) : SliceRel ρ' a n s a' c :=
  ⟨x.ne_free h.1, h.2.1, h.2.2.1, fun g hg => h.2.2.2 g (x.img h.1 hg)⟩
theorem MapAt.mono {ρ ρ' : Emb} (x : Ext ρ ρ') {r r' : Nat} (h : MapAt ρ r r') : MapAt ρ' r r' :=
  ⟨x.ne_free h.1, fun g hg => h.2 g (x.img h.1 hg)⟩

mutual
theorem VRel.mono {ρ ρ' : Emb} (x : Ext ρ ρ') : ∀ {v v' : Value}, VRel ρ v v' → VRel ρ' v v'
  | _, _, .bool b => .bool b
  | _, _, .int k n => .int k n
  | _, _, .string s => .string s
  | _, _, .ptrNil => .ptrNil
  | _, _, .ptr a a' h => .ptr a a' (h.mono x)
  | _, _, .slNil => .slNil
  | _, _, .sl a a' l c c' h => .sl a a' l c c' (h.mono x)
  | _, _, .mapNil => .mapNil
  | _, _, .map r r' h => .map r r' (h.mono x)
  | _, _, .func fn a b a' b' h1 h2 => .func fn a b a' b' (VsRel.mono x h1) (VsRel.mono x h2)
  | _, _, .nilFunc => .nilFunc
  | _, _, .nilIface => .nilIface
  | _, _, .iface t v v' h => .iface t v v' (VRel.mono x h)
  | _, _, .agg a a' h => .agg a a' (VsRel.mono x h)
  | _, _, .tuple a a' h => .tuple a a' (VsRel.mono x h)
theorem VsRel.mono {ρ ρ' : Emb} (x : Ext ρ ρ') : ∀ {l l' : List Value}, VsRel ρ l l' → VsRel ρ' l l'
  | _, _, .nil => .nil
  | _, _, .cons v v' l l' h t => .cons v v' l l' (VRel.mono x h) (VsRel.mono x t)
end

theorem VsRel.length {ρ : Emb} : ∀ {l l' : List Value}, VsRel ρ l l' → l'.length = l.length
  | _, _, .nil => rfl
  | _, _, .cons _ _ _ _ _ t => by simp [t.length]

theorem VsRel.get {ρ : Emb} : ∀ {l l' : List Value}, VsRel ρ l l' → ∀ (j : Nat) (v : Value), l[j]? = some v → ∃ v', l'[j]? = some v' ∧ VRel ρ v v'
  | _, _, .nil, j, v, h => by simp at h
  | _, _, .cons v v' l l' h t, 0, u, e => ⟨v', rfl, by simp at e; exact e ▸ h⟩
  | _, _, .cons v v' l l' h t, j + 1, u, e => by simpa using t.get j u (by simpa using e)

theorem VsRel.get_none {ρ : Emb} {l l' : List Value} (h : VsRel ρ l l') (j : Nat) (e : l[j]? = none) : l'[j]? = none := by
  rw [List.getElem?_eq_none_iff] at e ⊢
  rw [h.length]; exact e

theorem VsRel.of_get {ρ : Emb} : ∀ {l l' : List Value}, l'.length = l.length → (∀ (j : Nat) (v : Value), l[j]? = some v → ∃ v', l'[j]? = some v' ∧ VRel ρ v v') → VsRel ρ l l'
  | [], [], _, _ => .nil
  | [], _ :: _, h, _ => by simp at h
  | _ :: _, [], h, _ => by simp at h
  | v :: l, v' :: l', h, f => by
    obtain ⟨u, e, r⟩ := f 0 v rfl
    simp at e; subst e
    exact .cons v v' l l' r (VsRel.of_get (by simpa using h) fun j u hu => by simpa using f (j + 1) u (by simpa using hu))

theorem VsRel.append {ρ : Emb} : ∀ {a a' b b' : List Value}, VsRel ρ a a' → VsRel ρ b b' → VsRel ρ (a ++ b) (a' ++ b')
  | _, _, _, _, .nil, h => h
  | _, _, _, _, .cons v v' l l' h t, k => .cons v v' _ _ h (t.append k)
theorem VsRel.take {ρ : Emb} : ∀ {a a' : List Value} (n : Nat), VsRel ρ a a' → VsRel ρ (a.take n) (a'.take n)
  | _, _, 0, _ => by simpa using VsRel.nil
  | _, _, _ + 1, .nil => by simpa using VsRel.nil
  | _, _, n + 1, .cons v v' l l' h t => by simpa using VsRel.cons v v' _ _ h (t.take n)
theorem VsRel.drop {ρ : Emb} : ∀ {a a' : List Value} (n : Nat), VsRel ρ a a' → VsRel ρ (a.drop n) (a'.drop n)
  | _, _, 0, h => h
  | _, _, _ + 1, .nil => by simpa using VsRel.nil
  | _, _, n + 1, .cons v v' l l' h t => by simpa using t.drop n

/-- Plain values are related to themselves, and to nothing else. -/
theorem plain1_rel {ρ : Emb} {v : Value} (h : plain1 v = true) : VRel ρ v v := by
  cases v <;> simp [plain1] at h
  case bool b => exact .bool b
  case int k n => exact .int k n
  case string s => exact .string s
  case pointer a => subst h; exact .ptrNil
  case slice a n c => obtain ⟨⟨h1, h2⟩, h3⟩ := h; subst h1 h2 h3; exact .slNil
  case map r => subst h; exact .mapNil
  case nilFunc => exact .nilFunc
  case nilIface => exact .nilIface
theorem plain1_eq {ρ : Emb} {v v' : Value} (h : plain1 v = true) (r : VRel ρ v v') : v' = v := by
  cases r <;> simp_all [plain1]
theorem plains_rel {ρ : Emb} : ∀ {l : List Value}, l.all plain1 = true → VsRel ρ l l
  | [], _ => .nil
  | v :: l, h => by
    simp at h
    exact .cons v v l l (plain1_rel h.1) (plains_rel (by simpa using h.2))
theorem plains_eq {ρ : Emb} : ∀ (l l' : List Value), l.all plain1 = true → VsRel ρ l l' → l' = l := by
  intro l
  induction l with
  | nil => intro l' _ r; cases r; rfl
  | cons v l ih =>
    intro l' h r
    cases r with
    | cons v v' l l' r t =>
      simp only [List.all_cons, Bool.and_eq_true] at h
      rw [plain1_eq h.1 r, ih l' h.2 t]
theorem plainV_rel {ρ : Emb} {v : Value} (h : plainV v = true) : VRel ρ v v := by
  cases v with
  | agg cs => exact .agg cs cs (plains_rel h)
  | _ => exact plain1_rel h
theorem plainV_eq {ρ : Emb} {v v' : Value} (h : plainV v = true) (r : VRel ρ v v') : v' = v := by
  cases v with
  | agg cs =>
    cases r with
    | agg a a' t => exact congrArg Value.agg (Array.toList_inj.1 (plains_eq _ _ h t))
  | _ => exact plain1_eq h r

theorem VsRel.one {ρ : Emb} {v v' : Value} (h : VRel ρ v v') : VsRel ρ [v] [v'] := .cons v v' [] [] h .nil
theorem VRel.cells {ρ : Emb} {v v' : Value} (h : VRel ρ v v') : VsRel ρ v.cells.toList v'.cells.toList := by
  cases v with
  | agg a =>
    cases h with
    | agg a a' t => exact t
  | _ =>
    have hc : VsRel ρ [_] [v'] := .one h
    cases h <;> exact hc

theorem notAgg_rel {ρ : Emb} {v v' : Value} (h : VRel ρ v v') : notAgg v' = notAgg v := by cases h <;> rfl
theorem notAggs_rel {ρ : Emb} : ∀ {l l' : List Value}, VsRel ρ l l' → l'.all notAgg = l.all notAgg
  | _, _, .nil => rfl
  | _, _, .cons v v' l l' h t => by simp only [List.all_cons, notAgg_rel h, notAggs_rel t]

/-! Worlds. -/

inductive EsRel (ρ : Emb) : List MapEntry → List MapEntry → Prop
  | nil : EsRel ρ [] []
  | cons (e e' : MapEntry) (l l' : List MapEntry) (hk : VRel ρ e.key e'.key) (hv : VRel ρ e.val e'.val) (t : EsRel ρ l l') : EsRel ρ (e :: l) (e' :: l')

theorem EsRel.mono {ρ ρ' : Emb} (x : Ext ρ ρ') : ∀ {l l' : List MapEntry}, EsRel ρ l l' → EsRel ρ' l l'
  | _, _, .nil => .nil
  | _, _, .cons e e' l l' hk hv t => .cons e e' l l' (hk.mono x) (hv.mono x) (t.mono x)

def ObjRel (ρ : Emb) (w : World) (o : AObj) (g : Img) : Prop :=
  match o with
  | .cells c rw => g.rw = rw ∧ ∃ c' e fz, w.heap[g.b]? = some (.cells c' e fz) ∧ c'.size = g.n ∧ g.base + c.length ≤ g.n ∧
      (∀ j v, c[j]? = some v → ∃ v', c'[g.base + j]? = some v' ∧ VRel ρ v v') ∧ (rw = true → ∀ off, off < g.n → w.frozen? ⟨g.b, off, none⟩ = false)
  | .amap es => g.rw = true ∧ ∃ es' clk, w.heap[g.b]? = some (.map es' clk) ∧ EsRel ρ es es'.toList
  | .dead => False

structure WRel (ρ : Emb) (h : AH) (w : World) : Prop where
  ok : h.ok
  obj : ∀ i, match h.get i with
    | some .dead => ρ i = .dead
    | some o => ∃ g, ρ i = .img g ∧ ObjRel ρ w o g
    | none => ρ i = .free
  inj : ∀ i j gi gj, i ≠ j → ρ i = .img gi → ρ j = .img gj → gi.rw = true → gi.b ≠ gj.b

structure Frame1 (ρ : Emb) (w : World) (ρ' : Emb) (w' : World) : Prop where
  os : w'.os = w.os
  tape : w'.tape = w.tape
  output : w'.output = w.output
  size : w.heap.size ≤ w'.heap.size
  old : ∀ b, b < w.heap.size → (∀ i g, ρ i = .img g → g.rw = true → g.b ≠ b) → w'.heap[b]? = w.heap[b]?
  img : ∀ i g, ρ' i = .img g → g.rw = true → w.heap.size ≤ g.b ∨ ∃ j g0, ρ j = .img g0 ∧ g0.rw = true ∧ g0.b = g.b

structure Step (ρ : Emb) (w : World) (ρ' : Emb) (w' : World) : Prop where
  ext : Ext ρ ρ'
  frame : Frame1 ρ w ρ' w'

theorem Step.refl (ρ : Emb) (w : World) : Step ρ w ρ w :=
  ⟨Ext.refl ρ, rfl, rfl, rfl, Nat.le_refl _, fun _ _ _ => rfl, fun i g hg hr => .inr ⟨i, g, hg, hr, rfl⟩⟩

theorem Step.trans {a : Emb} {u : World} {b : Emb} {v : World} {c : Emb} {w : World} (h : Step a u b v) (k : Step b v c w) : Step a u c w := by
  refine ⟨h.ext.trans k.ext, k.frame.os.trans h.frame.os, k.frame.tape.trans h.frame.tape, k.frame.output.trans h.frame.output, Nat.le_trans h.frame.size k.frame.size, ?_, ?_⟩
  · intro x hx hno
    rw [k.frame.old x (Nat.lt_of_lt_of_le hx h.frame.size) ?_, h.frame.old x hx hno]
    intro i g hg hr e
    rcases h.frame.img i g hg hr with hs | ⟨j, g0, h1, h2, h3⟩
    · omega
    · exact hno j g0 h1 h2 (h3.trans e)
  · intro i g hg hr
    rcases k.frame.img i g hg hr with hs | ⟨j, g0, h1, h2, h3⟩
    · exact .inl (Nat.le_trans h.frame.size hs)
    · rcases h.frame.img j g0 h1 h2 with hs | ⟨j', g1, h4, h5, h6⟩
      · exact .inl (by omega)
      · exact .inr ⟨j', g1, h4, h5, h6.trans h3⟩

theorem WRel.live {ρ : Emb} {h : AH} {w : World} (r : WRel ρ h w) {i : Nat} {o : AObj} (hg : h.get i = some o) (hd : o ≠ .dead) : ∃ g, ρ i = .img g ∧ ObjRel ρ w o g := by
  have := r.obj i
  rw [hg] at this
  cases o with
  | dead => exact absurd rfl hd
  | cells c rw => exact this
  | amap es => exact this
theorem WRel.cells {ρ : Emb} {h : AH} {w : World} (r : WRel ρ h w) {i : Nat} {c : List Value} {rw : Bool} (hg : h.get i = some (.cells c rw)) :
    ∃ g, ρ i = .img g ∧ ObjRel ρ w (.cells c rw) g := r.live hg (by simp)
theorem WRel.amap {ρ : Emb} {h : AH} {w : World} (r : WRel ρ h w) {i : Nat} {es : List MapEntry} (hg : h.get i = some (.amap es)) :
    ∃ g, ρ i = .img g ∧ ObjRel ρ w (.amap es) g := r.live hg (by simp)
theorem WRel.free {ρ : Emb} {h : AH} {w : World} (r : WRel ρ h w) {i : Nat} (hg : h.get i = none) : ρ i = .free := by
  have := r.obj i
  rw [hg] at this
  exact this
theorem WRel.of_img {ρ : Emb} {h : AH} {w : World} (r : WRel ρ h w) {i : Nat} {g : Img} (hi : ρ i = .img g) : ∃ o, h.get i = some o ∧ ObjRel ρ w o g := by
  have := r.obj i
  cases hg : h.get i with
  | none => rw [hg] at this; simp only at this; rw [hi] at this; cases this
  | some o =>
    rw [hg] at this
    cases o with
    | dead => simp only at this; rw [hi] at this; cases this
    | cells c rw => obtain ⟨g', e, x⟩ := this; rw [hi] at e; cases e; exact ⟨_, rfl, x⟩
    | amap es => obtain ⟨g', e, x⟩ := this; rw [hi] at e; cases e; exact ⟨_, rfl, x⟩
theorem WRel.block {ρ : Emb} {h : AH} {w : World} (r : WRel ρ h w) {i : Nat} {g : Img} (hi : ρ i = .img g) : g.b < w.heap.size := by
  obtain ⟨o, _, x⟩ := r.of_img hi
  have : w.heap[g.b]? ≠ none := by
    cases o with
    | dead => exact x.elim
    | cells c rw => obtain ⟨_, c', e, fz, hb, _⟩ := x; rw [hb]; simp
    | amap es => obtain ⟨_, es', clk, hb, _⟩ := x; rw [hb]; simp
  rcases Nat.lt_or_ge g.b w.heap.size with h | h
  · exact h
  · exact absurd (Array.getElem?_eq_none h) this

end Go.Ev

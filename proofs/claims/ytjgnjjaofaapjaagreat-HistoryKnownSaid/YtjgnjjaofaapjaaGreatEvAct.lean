import Derived.Test.YtjgnjjaofaapjaaGreatEvGood2
namespace Go.Ev

/-! The slots of a frame. -/
structure BAct.wf (a : BAct) : Prop where
  flat : a.tmps.flat a.d
  room : a.n ≤ 2 ^ a.d

theorem BAct.slot_eq (a : BAct) (t : Nat) : a.slot t = sel (Nat.blt t a.n) (orUndef (Tr.get a.tmps t)) undef := by cases a; rfl
theorem BAct.set_eq (a : BAct) (t : Nat) (v : Value) : a.set t v = sel (Nat.blt t a.n) ⟨a.n, a.d, Tr.put a.d a.tmps t (.leaf v), a.defers⟩ a := by cases a; rfl
theorem blt_false {i n : Nat} (h : n ≤ i) : Nat.blt i n = false := by
  cases hb : Nat.blt i n with
  | false => rfl
  | true => have := lt_of_blt hb; omega

theorem BAct.set_in (a : BAct) {t : Nat} (h : t < a.n) (v : Value) : a.set t v = ⟨a.n, a.d, Tr.put a.d a.tmps t (.leaf v), a.defers⟩ := by rw [BAct.set_eq, blt_true h]; rfl
theorem BAct.set_out (a : BAct) {t : Nat} (h : a.n ≤ t) (v : Value) : a.set t v = a := by rw [BAct.set_eq, blt_false h]; rfl

theorem BAct.wf_set {a : BAct} (w : a.wf) (t : Nat) (v : Value) : (a.set t v).wf := by
  rcases Nat.lt_or_ge t a.n with h | h
  · rw [BAct.set_in a h]; exact ⟨Tr.flat_put v _ _ _ w.flat, w.room⟩
  · rw [BAct.set_out a h]; exact w
theorem BAct.n_set (a : BAct) (t : Nat) (v : Value) : (a.set t v).n = a.n := by
  rcases Nat.lt_or_ge t a.n with h | h
  · rw [BAct.set_in a h]
  · rw [BAct.set_out a h]
theorem BAct.defers_set (a : BAct) (t : Nat) (v : Value) : (a.set t v).defers = a.defers := by
  rcases Nat.lt_or_ge t a.n with h | h
  · rw [BAct.set_in a h]
  · rw [BAct.set_out a h]
theorem BAct.slot_set_same (a : BAct) {t : Nat} (h : t < a.n) (v : Value) : (a.set t v).slot t = v := by
  rw [BAct.set_in a h, BAct.slot_eq]
  simp only [blt_true h, sel_true, Tr.get_put_same]
  rfl
theorem BAct.slot_out (a : BAct) {t : Nat} (h : a.n ≤ t) : a.slot t = undef := by rw [BAct.slot_eq, blt_false h]; rfl
theorem BAct.slot_set_ne {a : BAct} (w : a.wf) {t u : Nat} (h : t ≠ u) (v : Value) : (a.set t v).slot u = a.slot u := by
  rcases Nat.lt_or_ge t a.n with ht | ht
  · rw [BAct.set_in a ht, BAct.slot_eq, BAct.slot_eq]
    rcases Nat.lt_or_ge u a.n with hu | hu
    · simp only [blt_true hu, sel_true]
      rw [Tr.get_put_ne v a.d a.tmps t u w.flat (Nat.lt_of_lt_of_le ht w.room) (Nat.lt_of_lt_of_le hu w.room) h]
    · simp only [blt_false hu, sel_false]
  · rw [BAct.set_out a ht]
theorem BAct.set_comm {a : BAct} (w : a.wf) {t u : Nat} (h : t ≠ u) (v x : Value) : (a.set t v).set u x = (a.set u x).set t v := by
  rcases Nat.lt_or_ge t a.n with ht | ht
  · rcases Nat.lt_or_ge u a.n with hu | hu
    · rw [BAct.set_in a ht, BAct.set_in a hu, BAct.set_in ⟨a.n, a.d, Tr.put a.d a.tmps t (.leaf v), a.defers⟩ (show u < a.n from hu), BAct.set_in ⟨a.n, a.d, Tr.put a.d a.tmps u (.leaf x), a.defers⟩ (show t < a.n from ht)]
      simp only [BAct.mk.injEq, true_and, and_true]
      exact Tr.put_comm v x a.d a.tmps t u w.flat (Nat.lt_of_lt_of_le ht w.room) (Nat.lt_of_lt_of_le hu w.room) h
    · rw [BAct.set_out _ (show (a.set t v).n ≤ u by rw [BAct.n_set]; exact hu), BAct.set_out a hu]
  · rw [BAct.set_out _ ht, BAct.set_out _ (show (a.set u x).n ≤ t by rw [BAct.n_set]; exact ht)]

theorem BAct.wf_put {a : BAct} (w : a.wf) (d : Option Tmp) (v : Value) : (a.put d v).wf := by
  cases d with
  | none => exact w
  | some d => exact BAct.wf_set w d v
theorem BAct.n_put (a : BAct) (d : Option Tmp) (v : Value) : (a.put d v).n = a.n := by
  cases d with
  | none => rfl
  | some d => exact BAct.n_set a d v
theorem BAct.defers_put (a : BAct) (d : Option Tmp) (v : Value) : (a.put d v).defers = a.defers := by
  cases d with
  | none => rfl
  | some d => exact BAct.defers_set a d v
theorem BAct.wf_later {a : BAct} (w : a.wf) (d : Deferred) : (a.later d).wf := ⟨w.flat, w.room⟩
theorem BAct.slot_later (a : BAct) (d : Deferred) (t : Nat) : (a.later d).slot t = a.slot t := by cases a; rfl
theorem BAct.eval_later (a : BAct) (d : Deferred) : (a.later d).eval = a.eval := by
  funext x
  cases x with
  | tmp t => exact BAct.slot_later a d t
  | _ => rfl
theorem BAct.later_put (a : BAct) (x : Option Tmp) (v : Value) (d : Deferred) : (a.put x v).later d = (a.later d).put x v := by
  cases x with
  | none => rfl
  | some t =>
    show (a.set t v).later d = (a.later d).set t v
    rcases Nat.lt_or_ge t a.n with h | h
    · rw [BAct.set_in a h, BAct.set_in (a.later d) (show t < (a.later d).n from h)]; rfl
    · rw [BAct.set_out a h, BAct.set_out (a.later d) (show (a.later d).n ≤ t from h)]
theorem BAct.put_comm {a : BAct} (w : a.wf) {x y : Option Tmp} (v u : Value) (h : ∀ d, x = some d → y ≠ some d) : (a.put x v).put y u = (a.put y u).put x v := by
  cases x with
  | none => rfl
  | some d =>
    cases y with
    | none => rfl
    | some e => exact BAct.set_comm w (fun he => h d rfl (by rw [he])) v u
theorem BAct.eval_put {a : BAct} (w : a.wf) {dst : Option Tmp} {v : Value} {x : Operand} (h : ∀ d, dst = some d → x ≠ .tmp d) : (a.put dst v).eval x = a.eval x := by
  cases dst with
  | none => rfl
  | some d =>
    cases x with
    | tmp t => exact BAct.slot_set_ne w (fun e => h d rfl (by rw [e])) v
    | _ => rfl

theorem setAll_wf : ∀ (l : List Value) (i : Nat) {a : BAct}, a.wf → (setAll i l a).wf
  | [], _, _, w => w
  | v :: l, i, _, w => setAll_wf l _ (BAct.wf_set w i v)
theorem setAll_n : ∀ (l : List Value) (i : Nat) (a : BAct), (setAll i l a).n = a.n
  | [], _, _ => rfl
  | v :: l, i, a => by
    show (setAll _ l _).n = _
    rw [setAll_n l, BAct.n_set]
theorem setAll_defers : ∀ (l : List Value) (i : Nat) (a : BAct), (setAll i l a).defers = a.defers
  | [], _, _ => rfl
  | v :: l, i, a => by
    show (setAll _ l _).defers = _
    rw [setAll_defers l, BAct.defers_set]
theorem depthOf_room {n : Nat} (h : n ≤ 512) : n ≤ 2 ^ depthOf n := by
  unfold depthOf
  cases h1 : Nat.ble n 16 with
  | true => have := Nat.le_of_ble_eq_true h1; simpa using this
  | false =>
    cases h2 : Nat.ble n 64 with
    | true => have := Nat.le_of_ble_eq_true h2; simpa using this
    | false => simpa using h
theorem BAct.wf_start {n : Nat} (h : n ≤ 512) (args : List Value) : (BAct.start n args).wf := setAll_wf args 0 ⟨Tr.flat_nil _, depthOf_room h⟩
theorem BAct.n_start (n : Nat) (args : List Value) : (BAct.start n args).n = n := setAll_n args 0 _
theorem BAct.defers_start (n : Nat) (args : List Value) : (BAct.start n args).defers = [] := setAll_defers args 0 _

theorem setAll_slot_lt : ∀ (l : List Value) (i : Nat) {a : BAct} (t : Nat), a.wf → t < i → (setAll i l a).slot t = a.slot t
  | [], _, _, _, _, _ => rfl
  | v :: l, i, a, t, w, h => by
    show (setAll (i + 1) l (a.set i v)).slot t = _
    rw [setAll_slot_lt l (i + 1) t (BAct.wf_set w i v) (by omega), BAct.slot_set_ne w (by omega)]
theorem setAll_slot : ∀ (l : List Value) (i : Nat) {a : BAct} (t : Nat) (v : Value), a.wf → i + l.length ≤ a.n → l[t]? = some v → (setAll i l a).slot (i + t) = v
  | [], _, _, _, _, _, _, h => by simp at h
  | u :: l, i, a, 0, v, w, hn, h => by
    show (setAll (i + 1) l (a.set i u)).slot (i + 0) = _
    rw [setAll_slot_lt l (i + 1) _ (BAct.wf_set w i u) (by omega)]
    simp at h hn
    exact (BAct.slot_set_same a (show i < a.n by omega) u).trans h
  | u :: l, i, a, t + 1, v, w, hn, h => by
    show (setAll (i + 1) l (a.set i u)).slot (i + (t + 1)) = _
    simp at h hn
    rw [show i + (t + 1) = (i + 1) + t by omega]
    exact setAll_slot l (i + 1) t v (BAct.wf_set w i u) (by rw [BAct.n_set]; omega) h
theorem setAll_slot_ge : ∀ (l : List Value) (i : Nat) {a : BAct} (t : Nat), a.wf → i + l.length ≤ t → (setAll i l a).slot t = a.slot t
  | [], _, _, _, _, _ => rfl
  | v :: l, i, a, t, w, h => by
    show (setAll (i + 1) l (a.set i v)).slot t = _
    simp at h
    rw [setAll_slot_ge l (i + 1) t (BAct.wf_set w i v) (by omega), BAct.slot_set_ne w (by omega)]

theorem BAct.slot_start {n : Nat} (hn : n ≤ 512) {args : List Value} (ha : args.length ≤ n) (t : Nat) : (BAct.start n args).slot t = (args[t]?).getD undef := by
  have w : (⟨n, depthOf n, .nil, []⟩ : BAct).wf := ⟨Tr.flat_nil _, depthOf_room hn⟩
  unfold BAct.start
  cases h : args[t]? with
  | some v => simpa using setAll_slot args 0 t v w (by simpa using ha) h
  | none =>
    rw [setAll_slot_ge args 0 t w (by simpa using h), BAct.slot_eq]
    cases Nat.blt t n <;> rfl

/-! What an operation looks at. -/
section
variable {ops : Array Oper}

theorem partsOf_congr {ev ev' : Operand → Value} (ps : Array (Nat × Operand)) (hp : ∀ x ∈ ps.map (·.2), ev x = ev' x) : partsOf ev ps = partsOf ev' ps := by
  unfold partsOf
  exact congrArg Array.toList (Array.map_congr_left fun p hm => by
    obtain ⟨i, x⟩ := p
    simp only [hp x (Array.mem_map.2 ⟨(i, x), hm, rfl⟩)])
theorem oCall_congr {P : Program} {id : Nat} {ev ev' : Operand → Value} (c : Call) (h : ∀ x ∈ c.operands, ev x = ev' x) : oCall P id ev c = oCall P id ev' c ∧ oDefer ev c = oDefer ev' c := by
  have hargs : c.args.map ev = c.args.map ev' := Array.map_congr_left fun x hx => h x (by simp [Call.operands, hx])
  unfold oCall oDefer
  rw [hargs]
  cases hc : c.callee with
  | value f => have hf : ev f = ev' f := h f (by simp [Call.operands, hc]); simp only [hf]; exact ⟨trivial, trivial⟩
  | invoke r m => exact ⟨rfl, rfl⟩
  | builtin b => exact ⟨rfl, rfl⟩

theorem aOp_congr {P : Program} {id : Nat} {ev ev' : Operand → Value} (o : Op) (h : ∀ x ∈ o.operands, ev x = ev' x) : aOp P id ev o = aOp P id ev' o := by
  cases o <;> simp only [Op.operands] at h <;> simp only [aOp]
  case build t ps => rw [partsOf_congr ps fun x hx => h x (by simpa using hx)]
  case buildSlice t n ps => rw [partsOf_congr ps fun x hx => h x (by simpa using hx)]
  case makeFunc fn first captured =>
    rw [Array.map_congr_left (xs := first) fun x hx => h x (by simp [hx]), Array.map_congr_left (xs := captured) fun x hx => h x (by simp [hx])]
  case call c => exact (oCall_congr c h).1
  case defer c => exact (oCall_congr (P := P) (id := id) c h).2
  case slice t x lo hi mx => cases lo <;> cases hi <;> cases mx <;> simp_all
  case pick c a b => unfold oPick; simp_all
  all_goals (first | rfl | (simp_all; done))

theorem bwanted_put {a : BAct} (w : a.wf) (o : Oper) (dst : Option Tmp) (v : Value) (h : ∀ d, dst = some d → d ∉ o.looksAt ops) :
    bwanted ops (a.put dst v) o = bwanted ops a o := by
  cases dst with
  | none => rfl
  | some d =>
    unfold bwanted
    cases hg : o.guard with
    | none => rfl
    | some gw =>
      obtain ⟨g, want⟩ := gw
      have hy : byielded ops (a.put (some d) v) g = byielded ops a g := by
        unfold byielded
        cases ho : ops[g]? with
        | none => rfl
        | some o' =>
          simp only
          cases ht : o'.dst with
          | none => rfl
          | some t =>
            have hne : d ≠ t := fun e => h d rfl (by subst e; simp [Oper.looksAt, hg, ho, ht])
            simp only
            rw [show (a.put (some d) v).slot t = a.slot t from BAct.slot_set_ne w hne v]
      simp only [hy]
theorem bwanted_later (a : BAct) (o : Oper) (d : Deferred) : bwanted ops (a.later d) o = bwanted ops a o := by
  unfold bwanted byielded
  simp only [BAct.slot_later]

theorem eval_put_looks {a : BAct} (w : a.wf) (o : Oper) (dst : Option Tmp) (v : Value) (h : ∀ d, dst = some d → d ∉ o.looksAt ops) : ∀ x ∈ o.op.operands, (a.put dst v).eval x = a.eval x :=
  fun x hx => BAct.eval_put w fun d hd hxd => h d hd (by
    subst hxd
    exact List.mem_append_left _ (List.mem_filterMap.2 ⟨.tmp d, by simpa using hx, rfl⟩))
end
end Go.Ev

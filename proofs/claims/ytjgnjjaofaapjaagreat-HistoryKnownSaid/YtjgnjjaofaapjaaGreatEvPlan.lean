import Derived.Test.YtjgnjjaofaapjaaGreatEvSwap3
namespace Go.Ev
section
variable {ops : Array Oper}

abbrev anc (ops : Array Oper) (i : Nat) : Nat := (ancs ops).getD i 0

theorem bit_or (a b i : Nat) : bitN (Nat.lor a b) i = (bitN a i || bitN b i) := by
  rw [bitN_eq, bitN_eq, bitN_eq, show Nat.lor a b = a ||| b from rfl, Nat.testBit_or]
theorem bit_and (a b i : Nat) : bitN (Nat.land a b) i = (bitN a i && bitN b i) := by
  rw [bitN_eq, bitN_eq, bitN_eq, show Nat.land a b = a &&& b from rfl, Nat.testBit_and]
theorem bit_xor (a b i : Nat) : bitN (Nat.xor a b) i = (bitN a i ^^ bitN b i) := by
  rw [bitN_eq, bitN_eq, bitN_eq, show Nat.xor a b = a ^^^ b from rfl, Nat.testBit_xor]
theorem bit_zero (i : Nat) : bitN 0 i = false := by rw [bitN_eq, Nat.zero_testBit]
theorem bit_one (i j : Nat) : bitN (oneN i) j = true ↔ j = i := by
  rw [bitN_eq, show oneN i = 1 <<< i from rfl, Nat.one_shiftLeft, Nat.testBit_two_pow]
  simp [eq_comm]

theorem ancMask_bit (acc : List Nat) (k : Nat) : ∀ (l : List Nat), bitN (ancMask acc l) k = true ↔ ∃ e ∈ l, k = e ∨ bitN (acc.getD e 0) k = true
  | [] => by simp [ancMask, bit_zero]
  | e :: l => by
    simp only [ancMask, bit_or, Bool.or_eq_true, bit_one, ancMask_bit acc k l, List.mem_cons]
    constructor
    · rintro (h | ⟨x, h1, h2⟩)
      · exact ⟨e, .inl rfl, h⟩
      · exact ⟨x, .inr h1, h2⟩
    · rintro ⟨x, rfl | h1, h2⟩
      · exact .inl h2
      · exact .inr ⟨x, h1, h2⟩

theorem ancsGo_ahead : ∀ (L : List Oper) (acc : List Nat), ∃ t, ancsGo L acc = acc ++ t
  | [], acc => ⟨[], by simp [ancsGo]⟩
  | o :: L, acc => by
    obtain ⟨t, ht⟩ := ancsGo_ahead L (acc ++ [ancMask acc (bindOn o)])
    exact ⟨[ancMask acc (bindOn o)] ++ t, by simp only [ancsGo]; rw [ht, List.append_assoc]⟩

theorem nodup_mid {α : Type} {x : α} {a b : List α} (h : (a ++ x :: b).Nodup) : (x :: (a ++ b)).Nodup := List.Perm.nodup List.perm_middle h

theorem ancsGo_at : ∀ (L : List Oper) (acc : List Nat) (j : Nat) (o : Oper), L[j]? = some o → (∀ e ∈ bindOn o, e < acc.length + j) → ∀ k,
    (bitN ((ancsGo L acc).getD (acc.length + j) 0) k = true ↔ ∃ e ∈ bindOn o, k = e ∨ bitN ((ancsGo L acc).getD e 0) k = true)
  | [], _, j, _, h, _ => by simp at h
  | o' :: L, acc, 0, o, h, hd => by
    intro k
    simp at h
    subst h
    obtain ⟨t, ht⟩ := ancsGo_ahead L (acc ++ [ancMask acc (bindOn o')])
    simp only [ancsGo]
    rw [ht]
    have e1 : (acc ++ [ancMask acc (bindOn o')] ++ t).getD (acc.length + 0) 0 = ancMask acc (bindOn o') := by
      simp [List.getD_eq_getElem?_getD]
    rw [e1, ancMask_bit]
    have e2 : ∀ e ∈ bindOn o', (acc ++ [ancMask acc (bindOn o')] ++ t).getD e 0 = acc.getD e 0 := fun e he => by
      have := hd e he
      rw [List.getD_eq_getElem?_getD, List.getD_eq_getElem?_getD, List.append_assoc, List.getElem?_append_left (by omega)]
    constructor
    · rintro ⟨e, h1, h2⟩
      exact ⟨e, h1, by rw [e2 e h1]; exact h2⟩
    · rintro ⟨e, h1, h2⟩
      exact ⟨e, h1, by rw [e2 e h1] at h2; exact h2⟩
  | o' :: L, acc, j + 1, o, h, hd => by
    intro k
    have := ancsGo_at L (acc ++ [ancMask acc (bindOn o')]) j o (by simpa using h) (fun e he => by have := hd e he; simp; omega) k
    simp only [ancsGo]
    rw [show acc.length + (j + 1) = (acc ++ [ancMask acc (bindOn o')]).length + j by simp; omega]
    exact this

theorem numbered_mem : ∀ (L : List Oper) (k j : Nat) (o : Oper), L[j]? = some o → (k + j, o) ∈ numbered k L
  | [], _, j, _, h => by simp at h
  | o' :: L, k, 0, o, h => by simp at h; subst h; simp [numbered]
  | o' :: L, k, j + 1, o, h => by
    simp only [numbered, List.mem_cons]
    exact .inr (by rw [show k + (j + 1) = Nat.succ k + j by omega]; exact numbered_mem L (Nat.succ k) j o (by simpa using h))

theorem downOK_spec (h : downOK ops = true) {i : Nat} {o : Oper} (ho : ops[i]? = some o) : ∀ e ∈ bindOn o, e < i := by
  intro e he
  unfold downOK at h
  rw [List.all_eq_true] at h
  have := h (0 + i, o) (numbered_mem ops.toList 0 i o (by simpa using ho))
  simp only [List.all_eq_true] at this
  have := lt_of_blt (this e he)
  omega

theorem anc_iff (h : downOK ops = true) {i : Nat} {o : Oper} (ho : ops[i]? = some o) (k : Nat) : bitN (anc ops i) k = true ↔ ∃ e ∈ bindOn o, k = e ∨ bitN (anc ops e) k = true := by
  have := ancsGo_at ops.toList [] i o (by simpa using ho) (fun e he => by have := downOK_spec h ho e he; simpa using this) k
  simpa [anc, ancs] using this

/-- One operation ahead of another in the plan. -/
def Ahead (ops : Array Oper) (a b : Nat) : Prop :=
  bitN (anc ops a) b = false ∧ (bitN (anc ops b) a = true ∨ ∀ oa ob, ops[a]? = some oa → ops[b]? = some ob → floats ob.op = true ∧ Open ops oa ob)

theorem maskOf_bit (k : Nat) : ∀ (l : List Nat), bitN (maskOf l) k = true ↔ k ∈ l
  | [] => by simp [maskOf, bit_zero]
  | i :: l => by simp only [maskOf, bit_or, Bool.or_eq_true, bit_one, maskOf_bit k l, List.mem_cons]
theorem dstMask_bit (o : Oper) (d : Nat) : bitN (dstMask o) d = true ↔ o.dst = some d := by
  unfold dstMask
  cases o.dst with
  | none => simp [bit_zero]
  | some e =>
    simp only [bit_one, Option.some.injEq]
    exact ⟨fun h => h.symm, fun h => h.symm⟩
theorem openD_bit (m k : Nat) : ∀ (l : List Info), bitN (openD m l) k = true ↔ ∃ x ∈ l, bitN m x.i = true ∧ bitN x.d k = true
  | [] => by simp [openD, bit_zero]
  | x :: l => by
    simp only [openD]
    cases h : bitN m x.i with
    | true => simp only [cond_true, bit_or, Bool.or_eq_true, openD_bit m k l, List.mem_cons, exists_eq_or_imp, h, true_and]
    | false => simp only [cond_false, openD_bit m k l, List.mem_cons, exists_eq_or_imp, h, Bool.false_eq_true, false_and, false_or]
theorem openK_bit (m k : Nat) : ∀ (l : List Info), bitN (openK m l) k = true ↔ ∃ x ∈ l, bitN m x.i = true ∧ bitN x.k k = true
  | [] => by simp [openK, bit_zero]
  | x :: l => by
    simp only [openK]
    cases h : bitN m x.i with
    | true => simp only [cond_true, bit_or, Bool.or_eq_true, openK_bit m k l, List.mem_cons, exists_eq_or_imp, h, true_and]
    | false => simp only [cond_false, openK_bit m k l, List.mem_cons, exists_eq_or_imp, h, Bool.false_eq_true, false_and, false_or]

theorem land_zero {a b : Nat} (h : Nat.beq (Nat.land a b) 0 = true) (k : Nat) (h1 : bitN a k = true) : bitN b k = false := by
  have h := Nat.eq_of_beq_eq_true h
  have e := bit_and a b k
  rw [h, bit_zero, h1, Bool.true_and] at e
  exact e.symm

def infoOf (ops : Array Oper) (b : Nat) (o : Oper) : Info := ⟨b, dstMask o, maskOf (o.looksAt ops)⟩

theorem openOK_spec {o oa : Oper} {a b m : Nat} {past : List Info} (h : openOK o (infoOf ops b o) m past = true) (hm : bitN m a = true) (ha : infoOf ops a oa ∈ past) : floats o.op = true ∧ Open ops oa o := by
  unfold openOK at h
  simp only [Bool.or_eq_true, Bool.and_eq_true] at h
  rcases h with h | ⟨⟨h1, h2⟩, h3⟩
  · rw [Nat.eq_of_beq_eq_true h, bit_zero] at hm; cases hm
  · have hD : ∀ d, oa.dst = some d → bitN (openD m past) d = true := fun d hd => (openD_bit m d past).2 ⟨_, ha, hm, (dstMask_bit oa d).2 hd⟩
    refine ⟨h1, fun d hd hin => ?_, fun d hd hd2 => ?_, fun d hd hin => ?_⟩
    · have := land_zero h2 d (hD d hd)
      rw [bit_or, Bool.or_eq_false_iff] at this
      have h4 : bitN (maskOf (o.looksAt ops)) d = true := (maskOf_bit d _).2 hin
      rw [show (infoOf ops b o).k = maskOf (o.looksAt ops) from rfl, h4] at this
      cases this.1
    · have := land_zero h2 d (hD d hd)
      rw [bit_or, Bool.or_eq_false_iff] at this
      have h4 : bitN (dstMask o) d = true := (dstMask_bit o d).2 hd2
      rw [show (infoOf ops b o).d = dstMask o from rfl, h4] at this
      cases this.2
    · have := land_zero h3 d ((dstMask_bit o d).2 hd)
      rw [(openK_bit m d past).2 ⟨_, ha, hm, (maskOf_bit d _).2 hin⟩] at this
      cases this

theorem checkGo_spec : ∀ (l : List Nat) (seen : Nat) (past : List Info), checkGo ops (ancs ops) l seen past = true →
    (∀ a, bitN seen a = true → ∃ oa, ops[a]? = some oa ∧ infoOf ops a oa ∈ past) →
    l.Nodup ∧ (∀ b ∈ l, b < ops.size ∧ bitN seen b = false ∧ ∀ a, bitN seen a = true → bitN (anc ops b) a = true ∨ ∀ oa ob, ops[a]? = some oa → ops[b]? = some ob → floats ob.op = true ∧ Open ops oa ob) ∧ l.Pairwise (Ahead ops) ∧
      ∀ b ∈ l, ∀ a, bitN (anc ops b) a = true → bitN seen a = true ∨ a ∈ l
  | [], seen, past, _, _ => ⟨List.nodup_nil, by simp, List.Pairwise.nil, by simp⟩
  | b :: l, seen, past, h, hp => by
    unfold checkGo at h
    cases ho : ops[b]? with
    | none => rw [ho] at h; cases h
    | some o =>
      rw [ho] at h
      simp only [Bool.and_eq_true, Bool.not_eq_true'] at h
      obtain ⟨⟨⟨h1, h2⟩, h3⟩, h4⟩ := h
      have h2 := Nat.eq_of_beq_eq_true h2
      have sub : ∀ a, bitN (anc ops b) a = true → bitN seen a = true := fun a ha => by
        have := bit_and ((ancs ops).getD b 0) seen a
        rw [h2, show bitN ((ancs ops).getD b 0) a = true from ha, Bool.true_and] at this
        exact this.symm
      obtain ⟨i1, i2, i3, i4⟩ := checkGo_spec l (Nat.lor seen (oneN b)) (infoOf ops b o :: past) h4 (fun a ha => by
        rw [bit_or, Bool.or_eq_true, bit_one] at ha
        rcases ha with ha | rfl
        · obtain ⟨oa, e1, e2⟩ := hp a ha
          exact ⟨oa, e1, by simp [e2]⟩
        · exact ⟨o, ho, by simp⟩)
      have later : ∀ c ∈ l, bitN seen c = false ∧ c ≠ b := fun c hc => by
        have := (i2 c hc).2.1
        rw [bit_or, Bool.or_eq_false_iff] at this
        refine ⟨this.1, fun e => ?_⟩
        subst e
        rw [(bit_one c c).2 rfl] at this
        cases this.2
      refine ⟨List.nodup_cons.2 ⟨fun hin => (later b hin).2 rfl, i1⟩, ?_, List.Pairwise.cons (fun c hc => ⟨?_, ?_⟩) i3, ?_⟩
      · intro c hc
        rcases List.mem_cons.1 hc with rfl | hc
        · refine ⟨(Array.getElem?_eq_some_iff.1 ho).1, h1, fun a ha => ?_⟩
          cases hb : bitN (anc ops c) a with
          | true => exact .inl rfl
          | false =>
            refine .inr fun oa ob hoa hob => ?_
            rw [ho] at hob
            cases hob
            obtain ⟨oa', e1, e2⟩ := hp a ha
            rw [hoa] at e1
            cases e1
            exact openOK_spec h3 (by rw [bit_xor, ha, show bitN ((ancs ops).getD c 0) a = false from hb]; rfl) e2
        · refine ⟨(i2 c hc).1, (later c hc).1, fun a ha => (i2 c hc).2.2 a ?_⟩
          rw [bit_or, ha]; rfl
      · cases hb : bitN (anc ops b) c with
        | false => rfl
        | true =>
          have := sub c hb
          rw [(later c hc).1] at this
          cases this
      · exact (i2 c hc).2.2 b (by rw [bit_or, (bit_one b b).2 rfl, Bool.or_true])
      · intro c hc a ha
        rcases List.mem_cons.1 hc with rfl | hc
        · exact .inl (sub a ha)
        · rcases i4 c hc a ha with h5 | h5
          · rw [bit_or, Bool.or_eq_true, bit_one] at h5
            rcases h5 with h5 | rfl
            · exact .inl h5
            · exact .inr (by simp)
          · exact .inr (by simp [h5])

theorem full_of_nodup {n : Nat} {l : List Nat} (hl : l.length = n) (hn : l.Nodup) (hb : ∀ i ∈ l, i < n) (i : Nat) (hi : i < n) : i ∈ l := by
  refine Classical.byContradiction fun hni => ?_
  have h1 : (i :: l).Nodup := List.nodup_cons.2 ⟨hni, hn⟩
  have hs : i :: l ⊆ List.range n := fun x hx => by
    rcases List.mem_cons.1 hx with rfl | hx
    · exact List.mem_range.2 hi
    · exact List.mem_range.2 (hb x hx)
  have := h1.length_le_of_subset hs
  simp at this
  omega

/-- What is left of the plan, beside what is listed. -/
structure LInv (ops : Array Oper) (l : List Nat) (listed : Array Bool) : Prop where
  size : listed.size = ops.size
  nodup : l.Nodup
  mem : ∀ i, i ∈ l ↔ i < ops.size ∧ listed.getD i true = false
  pair : l.Pairwise (Ahead ops)
  down : ∀ i o, ops[i]? = some o → i ∉ l → ∀ e ∈ bindOn o, e ∉ l

theorem mem_bindOn {o : Oper} {e : Nat} : e ∈ bindOn o ↔ ∃ x ∈ o.after, Region.binds .any x = true ∧ x.on = e := by
  unfold bindOn
  simp only [List.mem_map, List.mem_filter, Array.mem_toList_iff]
  constructor
  · rintro ⟨x, ⟨h1, h2⟩, h3⟩; exact ⟨x, h1, h2, h3⟩
  · rintro ⟨x, h1, h2, h3⟩; exact ⟨x, ⟨h1, h2⟩, h3⟩

theorem LInv.listed {l : List Nat} {listed : Array Bool} (v : LInv ops l listed) {e : Nat} (he : e < ops.size) : listed.getD e false = true ↔ e ∉ l := by
  have hs : e < listed.size := by rw [v.size]; exact he
  rw [v.mem e]
  simp only [he, true_and]
  simp [hs]

theorem LInv.anc_out {l : List Nat} {listed : Array Bool} (v : LInv ops l listed) (hd : downOK ops = true) : ∀ (i : Nat) (o : Oper), ops[i]? = some o → (∀ e ∈ bindOn o, e ∉ l) → ∀ e, bitN (anc ops i) e = true → e ∉ l := by
  intro i
  induction i using Nat.strongRecOn with
  | ind i ih =>
    intro o ho hb e he
    obtain ⟨k, hk, he⟩ := (anc_iff hd ho e).1 he
    rcases he with rfl | he
    · exact hb e hk
    · have hlt := downOK_spec hd ho k hk
      have hi : i < ops.size := (Array.getElem?_eq_some_iff.1 ho).1
      have hko : ops[k]? = some ops[k] := Array.getElem?_eq_getElem (by omega)
      exact ih k hlt _ hko (v.down k _ hko (hb k hk)) e he

theorem LInv.ready_mem {l : List Nat} {listed : Array Bool} (v : LInv ops l listed) {i : Nat} (h : i ∈ Region.ready .any ops listed) : i ∈ l := by
  obtain ⟨h1, o, ho, _⟩ := mem_ready.1 h
  exact (v.mem i).2 ⟨(Array.getElem?_eq_some_iff.1 ho).1, h1⟩

theorem LInv.ready_anc {l : List Nat} {listed : Array Bool} (v : LInv ops l listed) (hd : downOK ops = true) {i : Nat} (h : i ∈ Region.ready .any ops listed) : (∀ e, bitN (anc ops i) e = true → e ∉ l) ∧ ∀ o, ops[i]? = some o → ∀ e ∈ bindOn o, e ∉ l := by
  obtain ⟨h1, o, ho, h2⟩ := mem_ready.1 h
  have hi : i < ops.size := (Array.getElem?_eq_some_iff.1 ho).1
  have hb : ∀ e ∈ bindOn o, e ∉ l := fun e he => by
    have hlt := downOK_spec hd ho e he
    obtain ⟨x, hx, hbi, rfl⟩ := mem_bindOn.1 he
    exact (v.listed (by omega)).1 (h2 x hx hbi)
  refine ⟨v.anc_out hd i o ho hb, fun o' ho' => ?_⟩
  rw [ho] at ho'
  cases ho'
  exact hb

theorem LInv.head_ready {i : Nat} {l : List Nat} {listed : Array Bool} (v : LInv ops (i :: l) listed) (hd : downOK ops = true) : i ∈ Region.ready .any ops listed := by
  obtain ⟨h1, h2⟩ := (v.mem i).1 (by simp)
  have ho : ops[i]? = some ops[i] := Array.getElem?_eq_getElem h1
  refine mem_ready.2 ⟨h2, _, ho, fun e he hb => ?_⟩
  have hm : e.on ∈ bindOn ops[i] := mem_bindOn.2 ⟨e, he, hb, rfl⟩
  have hlt := downOK_spec hd ho e.on hm
  refine (v.listed (by omega)).2 fun hin => ?_
  have ha : bitN (anc ops i) e.on = true := (anc_iff hd ho e.on).2 ⟨e.on, hm, .inl rfl⟩
  rcases List.mem_cons.1 hin with h | h
  · omega
  · rw [((List.pairwise_cons.1 v.pair).1 _ h).1] at ha
    cases ha

theorem LInv.step {i : Nat} {l1 l2 : List Nat} {listed : Array Bool} (v : LInv ops (l1 ++ i :: l2) listed) (hd : downOK ops = true) (h : i ∈ Region.ready .any ops listed) :
    LInv ops (l1 ++ l2) (listed.setIfInBounds i true) := by
  have hsub : (l1 ++ l2).Sublist (l1 ++ i :: l2) := (List.append_sublist_append_left l1).2 (List.sublist_cons_self i l2)
  have hnd := v.nodup
  have hi : i ∉ l1 ++ l2 := by
    have := (nodup_mid hnd)
    exact (List.nodup_cons.1 this).1
  refine ⟨by simp [v.size], hnd.sublist hsub, fun j => ?_, v.pair.sublist hsub, fun j o ho hj e he => ?_⟩
  · have hm := v.mem j
    by_cases hji : j = i
    · subst hji
      have hlt : j < listed.size := by rw [v.size]; exact ((v.mem j).1 (by simp)).1
      constructor
      · intro hh; exact absurd hh hi
      · rintro ⟨_, hh⟩
        simp [hlt] at hh
    · rw [getD_set_ne true (Ne.symm hji), ← hm]
      simp [hji]
  · by_cases hji : j = i
    · subst hji
      exact fun hin => (v.ready_anc hd h).2 o ho e he (hsub.subset hin)
    · refine fun hin => v.down j o ho (fun hin2 => hj ?_) e he (hsub.subset hin)
      simp only [List.mem_append, List.mem_cons] at hin2 ⊢
      rcases hin2 with h1 | h1 | h1
      · exact .inl h1
      · exact absurd h1 hji
      · exact .inr h1

theorem LInv.init (hk : planned ops = true) : downOK ops = true ∧ (planOf ops (ancs ops)).length = ops.size ∧ LInv ops (planOf ops (ancs ops)) (Array.replicate ops.size false) := by
  simp only [planned, planOK, Bool.and_eq_true] at hk
  obtain ⟨⟨k1, k4⟩, k5⟩ := hk
  have k1 := Nat.eq_of_beq_eq_true k1
  obtain ⟨n1, n2, n3, _⟩ := checkGo_spec _ 0 [] k5 (fun a ha => by rw [bit_zero] at ha; cases ha)
  have k2' : ∀ i ∈ planOf ops (ancs ops), i < ops.size := fun i hi => (n2 i hi).1
  have hall := full_of_nodup k1 n1 k2'
  refine ⟨k4, k1, by simp, n1, fun i => ?_, n3, fun i o ho hni => ?_⟩
  · constructor
    · intro hi
      have := k2' i hi
      exact ⟨this, by simp [this]⟩
    · rintro ⟨h1, _⟩
      exact hall i h1
  · exact absurd (hall i (Array.getElem?_eq_some_iff.1 ho).1) hni

theorem wpAny_of_runD {P : Program} {Q : Exit → Act → World → Prop} (E : Env) {ih : CodeRun} (hg : Good ih) (base : Nat) (hd : downOK ops = true) (Rel : DS → Act → World → Prop)
    (hrel : ∀ s a w, Rel s a w → s.h.ok ∧ s.a.wf ∧ base + ops.size ≤ s.h.next)
    (hstep : ∀ i s s1 a w (K : Act → World → Prop), Rel s a w → stepD E ih ops (ancs ops) base i s = some s1 → (∀ a1 w1, Rel s1 a1 w1 → K a1 w1) → wpOp P ops Q i K a w)
    (sf : DS) (hQ : ∀ a w, Rel sf a w → Q .normal a w) :
    ∀ (fuel : Nat) (l : List Nat) (listed : Array Bool) (s : DS) (a : Act) (w : World), LInv ops l listed → l.length ≤ fuel → Rel s a w →
      runD E ih ops (ancs ops) base l s = some sf → wpAny P .any ops Q fuel listed a w := by
  have done : ∀ (l : List Nat) (listed : Array Bool) (s : DS) (a : Act) (w : World), LInv ops l listed → Rel s a w → runD E ih ops (ancs ops) base l s = some sf → Region.ready .any ops listed = [] → Q .normal a w := by
    intro l listed s a w v r e hr
    cases l with
    | nil =>
      simp only [runD, Option.some.injEq] at e
      subst e
      exact hQ a w r
    | cons i l =>
      have := v.head_ready hd
      rw [hr] at this
      cases this
  intro fuel
  induction fuel with
  | zero =>
    intro l listed s a w v hl r e
    have hr : Region.ready .any ops listed = [] := by
      rcases hx : Region.ready .any ops listed with _ | ⟨i, t⟩
      · rfl
      · have hm := v.ready_mem (i := i) (by rw [hx]; simp)
        cases l with
        | nil => cases hm
        | cons _ _ => simp at hl
    exact ⟨hr, done l listed s a w v r e hr⟩
  | succ fuel ihf =>
    intro l listed s a w v hl r e
    refine ⟨done l listed s a w v r e, fun i hi => ?_⟩
    have him := v.ready_mem hi
    obtain ⟨l1, l2, rfl⟩ := List.append_of_mem him
    obtain ⟨ra, _⟩ := v.ready_anc hd hi
    obtain ⟨g1, g2, g3⟩ := hrel s a w r
    have hio := (v.mem i).1 him
    have ho : ops[i]? = some ops[i] := Array.getElem?_eq_getElem hio.1
    have hahead : ∀ y ∈ l1, Ahead ops y i := fun y hy => (List.pairwise_append.1 v.pair).2.2 y hy i (by simp)
    have hopen : ∀ y ∈ l1, ∀ oy, ops[y]? = some oy → floats ops[i].op = true ∧ Open ops oy ops[i] := fun y hy => by
      rcases (hahead y hy).2 with h1 | h1
      · exact absurd (by simp [hy] : y ∈ l1 ++ i :: l2) (ra y h1)
      · exact fun oy hoy => h1 oy _ hoy ho
    have e' : runD E ih ops (ancs ops) base (i :: (l1 ++ l2)) s = some sf := by
      cases hf : floats ops[i].op with
      | true =>
        refine runD_bubble E hg (ancs ops) base i ho hf l2 l1 s sf (fun y hy => ⟨?_, fun hyi => ?_, fun oy hoy => (hopen y hy oy hoy).2⟩) g1 g2 g3 e
        · cases hb : bitN ((ancs ops).getD i 0) y with
          | false => rfl
          | true => exact absurd (by simp [hy] : y ∈ l1 ++ i :: l2) (ra y hb)
        subst hyi
        have := nodup_mid v.nodup
        exact (List.nodup_cons.1 this).1 (by simp [hy])
      | false =>
        cases l1 with
        | nil => exact e
        | cons y l1 =>
          have hys : y < ops.size := ((v.mem y).1 (by simp)).1
          have hyo : ops[y]? = some ops[y] := Array.getElem?_eq_getElem hys
          have := (hopen y (by simp) _ hyo).1
          rw [hf] at this
          cases this
    rw [runD_cons] at e'
    obtain ⟨s1, e1, e2⟩ := e'
    refine hstep i s s1 a w _ r e1 fun a1 w1 r1 => ?_
    refine ihf (l1 ++ l2) _ s1 a1 w1 (v.step hd hi) ?_ r1 e2
    simp at hl ⊢
    omega
end
end Go.Ev

import Derived.Test.YtjgnjjaofaapjaaGreatEvOps2
import Derived.ProofKit
namespace Go.Ev
section
variable {P : Program} {ρ : Emb} {h : AH} {w : World} {id : Nat}

theorem byteAt_some {s : ByteArray} {k : Option Nat} {v : Value} (e : byteAt s k = some v) : ∃ q b, k = some q ∧ s.data.toList[q]? = some b ∧ v = .int .u8 b.toNat := by
  cases k with
  | none => simp [byteAt] at e
  | some q =>
    simp only [byteAt] at e
    cases hb : s.data.toList[q]? with
    | none => rw [hb] at e; simp at e
    | some b => rw [hb] at e; simp at e; exact ⟨q, b, rfl, hb, e.symm⟩

theorem op_index {wr : WRel ρ h w} (t : TypeId) {x x' i i' : Value} (hx : VRel ρ x x') (hi : VRel ρ i i') : Sim ρ h w id (retO (aIndex P t x i)) (valR ((Instr.index t x' i').run P w)) := by
  refine sim_retO wr fun v e => ?_
  unfold aIndex at e
  cases hn : intOfV i with
  | none => simp [hn] at e
  | some n =>
    obtain ⟨k, rfl⟩ := intOfV_rel hn hi
    simp only [hn] at e
    cases hu : P.underlying t with
    | none => simp [hu] at e
    | some d =>
      cases d <;> simp only [hu] at e <;> try cases e
      case array nn el =>
        cases hx <;> simp only at e <;> try cases e
        rename_i a a' hr
        cases hi' : P.info? el with
        | none => simp [hi'] at e
        | some inf =>
          simp only [hi'] at e
          cases hq : aIdx n nn with
          | none => simp [hq] at e
          | some q =>
            simp only [hq] at e
            obtain ⟨rfl, hlt⟩ := aIdx_some hq
            obtain ⟨v', h1, h2⟩ := aPart_rel (w := w) e hr
            exact ⟨v', by simp [Instr.index, run_asIntOf, run_underlying hu, run_sizeOfI hi', hlt, h1], h2⟩
      case string =>
        cases hx <;> simp only at e <;> try cases e
        rename_i s
        obtain ⟨q, b, hq, hb, rfl⟩ := byteAt_some e
        obtain ⟨rfl, hlt⟩ := aIdx_some hq
        refine ⟨.int .u8 b.toNat, ?_, .int _ _⟩
        have hs : s[q]? = some b := by
          have h1 : q < s.size := hlt
          rw [show s[q]? = some s[q] from getElem?_pos s q h1]
          have h2 : s.data.toList[q]? = some s[q] := by
            rw [Array.getElem?_toList]
            have : q < s.data.size := h1
            rw [Array.getElem?_eq_getElem this]
            rfl
          rw [h2] at hb
          exact hb
        simp [Instr.index, run_asIntOf, run_underlying hu, hs]

/-! Slices. -/
def ORel (ρ : Emb) : Option Value → Option Value → Prop
  | none, none => True
  | some a, some b => VRel ρ a b
  | _, _ => False

theorem obound {v v' : Option Value} {dflt n k : Nat} (e : aBound v dflt n = some k) (hr : ORel ρ v v') :
    (v = none ∧ v' = none ∧ k = dflt) ∨ (∃ u kk, v = some u ∧ v' = some (.int kk k) ∧ k ≤ n) := by
  cases v with
  | none =>
    cases v' with
    | none => simp [aBound] at e; exact .inl ⟨rfl, rfl, e.symm⟩
    | some _ => exact hr.elim
  | some a =>
    cases v' with
    | none => exact hr.elim
    | some b =>
      simp only [aBound] at e
      cases hi : intOfV a with
      | none => simp [hi] at e
      | some i =>
        simp only [hi, Option.bind_some] at e
        obtain ⟨kk, rfl⟩ := intOfV_rel hi hr
        obtain ⟨rfl, hle⟩ := aIdxLe_some e
        exact .inr ⟨a, kk, rfl, rfl, hle⟩

theorem run_sliceBound (kk : IntKind) (k y : Nat) (c : BoundsCode) (hle : k ≤ y) (w : World) : (Instr.sliceBound (.int kk k) y c).run P w = .ok k w := by
  simp [Instr.sliceBound, run_asIntOf, hle]

theorem bounds_rel {lo lo' hi hi' mx mx' : Option Value} (hl : ORel ρ lo lo') (hh : ORel ρ hi hi') (hm : ORel ρ mx mx') {len cap' m h' l : Nat} (hno : (mx.isSome && hi.isNone) = false)
    (e0 : aBound mx len len = some m) (e1 : aBound hi len m = some h') (e2 : aBound lo 0 h' = some l) (hc : len ≤ cap') (b : Bool) :
    ∃ m', (Instr.sliceBounds b len cap' lo' hi' mx').run P w = .ok (l, h', m') w ∧ l ≤ h' ∧ h' ≤ m' ∧ m' ≤ cap' ∧ h' ≤ len := by
  rcases obound e0 hm with ⟨rfl, rfl, rfl⟩ | ⟨u0, k0, rfl, rfl, h0⟩
  · rcases obound e1 hh with ⟨rfl, rfl, rfl⟩ | ⟨u1, k1, rfl, rfl, h1⟩
    · rcases obound e2 hl with ⟨rfl, rfl, rfl⟩ | ⟨u2, k2, rfl, rfl, h2⟩
      · exact ⟨cap', by simp [Instr.sliceBounds], Nat.zero_le _, hc, Nat.le_refl _, Nat.le_refl _⟩
      · exact ⟨cap', by simp [Instr.sliceBounds, run_sliceBound _ _ _ _ h2], h2, hc, Nat.le_refl _, Nat.le_refl _⟩
    · have h1' : h' ≤ cap' := by omega
      rcases obound e2 hl with ⟨rfl, rfl, rfl⟩ | ⟨u2, k2, rfl, rfl, h2⟩
      · exact ⟨cap', by simp [Instr.sliceBounds, run_sliceBound _ _ _ _ h1'], Nat.zero_le _, h1', Nat.le_refl _, h1⟩
      · exact ⟨cap', by simp [Instr.sliceBounds, run_sliceBound _ _ _ _ h1', run_sliceBound _ _ _ _ h2], h2, h1', Nat.le_refl _, h1⟩
  · have h0' : m ≤ cap' := by omega
    rcases obound e1 hh with ⟨rfl, rfl, rfl⟩ | ⟨u1, k1, rfl, rfl, h1⟩
    · simp at hno
    · rcases obound e2 hl with ⟨rfl, rfl, rfl⟩ | ⟨u2, k2, rfl, rfl, h2⟩
      · exact ⟨m, by simp [Instr.sliceBounds, run_sliceBound _ _ _ _ h0', run_sliceBound _ _ _ _ h1], Nat.zero_le _, h1, h0', by omega⟩
      · exact ⟨m, by simp [Instr.sliceBounds, run_sliceBound _ _ _ _ h0', run_sliceBound _ _ _ _ h1, run_sliceBound _ _ _ _ h2], h2, h1, h0', by omega⟩

theorem bind3 {mx hi lo : Option Value} {len : Nat} {f : Nat → Nat → Nat → Option Value} {v : Value}
    (e : ((aBound mx len len).bind fun m => (aBound hi len m).bind fun h => (aBound lo 0 h).bind fun l => f m h l) = some v) :
    ∃ m h l, aBound mx len len = some m ∧ aBound hi len m = some h ∧ aBound lo 0 h = some l ∧ f m h l = some v := by
  cases h0 : aBound mx len len with
  | none => simp [h0] at e
  | some m =>
    simp only [h0, Option.bind_some] at e
    cases h1 : aBound hi len m with
    | none => simp [h1] at e
    | some h =>
      simp only [h1, Option.bind_some] at e
      cases h2 : aBound lo 0 h with
      | none => simp [h2] at e
      | some l =>
        simp only [h2, Option.bind_some] at e
        exact ⟨m, h, l, rfl, h1, h2, e⟩

theorem sliceStr_rel {t : TypeId} (hu : P.underlying t = some .string) {s : ByteArray} {lo lo' hi hi' mx mx' : Option Value} (hl : ORel ρ lo lo') (hh : ORel ρ hi hi') (hm : ORel ρ mx mx')
    {v : Value} (e : sliceStr s lo hi mx = some v) : ∃ v', (Instr.sliceAt t (.string s) lo' hi' mx').run P w = .ok v' w ∧ VRel ρ v v' := by
  unfold sliceStr at e
  cases mx with
  | some _ => simp at e
  | none =>
    cases mx' with
    | some _ => exact hm.elim
    | none =>
      simp only at e
      cases h1 : aBound hi s.size s.size with
      | none => simp [h1] at e
      | some hv =>
        simp only [h1, Option.bind_some] at e
        cases h2 : aBound lo 0 hv with
        | none => simp [h2] at e
        | some lv =>
          simp only [h2, Option.bind_some, Option.some.injEq] at e
          subst e
          obtain ⟨m', hrun, _⟩ := bounds_rel (P := P) (w := w) (mx := none) (mx' := none) hl hh trivial rfl rfl h1 h2 (Nat.le_refl _) false
          exact ⟨.string (s.extract lv hv), by simp [Instr.sliceAt, Instr.slice, run_underlying hu, hrun], .string _⟩

theorem sliceSl_rel {t el : TypeId} {inf : TypeInfo} (hu : P.underlying t = some (.slice el)) (hi0 : P.info? el = some inf) {a a' : Option Addr} {len c cap' : Nat} (hx : VRel ρ (.slice a len c) (.slice a' len cap'))
    {lo lo' hi hi' mx mx' : Option Value} (hl : ORel ρ lo lo') (hh : ORel ρ hi hi') (hm : ORel ρ mx mx')
    {v : Value} (e : sliceSl inf.size a len c lo hi mx = some v) : ∃ v', (Instr.sliceAt t (.slice a' len cap') lo' hi' mx').run P w = .ok v' w ∧ VRel ρ v v' := by
  unfold sliceSl at e
  cases hg : (mx.isSome && hi.isNone) with
  | true => simp [hg] at e
  | false =>
    simp only [hg, cond_false] at e
    cases hx with
    | slNil =>
      obtain ⟨m, hv, lv, h0, h1, h2, e⟩ := bind3 e
      obtain ⟨m', hrun, hb1, hb2, hb3, hb4⟩ := bounds_rel (P := P) (w := w) hl hh hm hg h0 h1 h2 (Nat.le_refl 0) true
      simp only [Option.some.injEq] at e
      subst e
      have hlv : lv = 0 := by omega
      have hhv : hv = 0 := by omega
      have hm' : m' = 0 := by omega
      subst hlv hhv hm'
      exact ⟨.slice none 0 0, by simp [Instr.sliceAt, Instr.slice, run_underlying hu, hrun, run_sizeOfI hi0], .slNil⟩
    | sl a a' _ _ _ hr =>
      obtain ⟨m, hv, lv, h0, h1, h2, e⟩ := bind3 e
      obtain ⟨r1, r2, r3, r4⟩ := hr
      obtain ⟨m', hrun, hb1, hb2, hb3, hb4⟩ := bounds_rel (P := P) (w := w) hl hh hm hg h0 h1 h2 r3 true
      simp only at e
      cases hok : (okAt a && Nat.beq c inf.size) with
      | false => simp [hok] at e
      | true =>
        simp only [hok, cond_true, Option.some.injEq] at e
        subst e
        rw [Bool.and_eq_true, Nat.beq_eq] at hok
        obtain ⟨_, rfl⟩ := hok
        by_cases hml : m' = lv
        · subst hml
          have : hv = m' := by omega
          subst this
          refine ⟨.slice (some a') 0 0, by simp [Instr.sliceAt, Instr.slice, run_underlying hu, hrun, run_sizeOfI hi0], ?_⟩
          have hz : Nat.sub hv hv = 0 := Nat.sub_self hv
          rw [hz]
          exact .sl _ _ _ _ _ ⟨r1, rfl, Nat.le_refl _, fun g hg => .inl ⟨rfl, rfl⟩⟩
        · refine ⟨.slice (some (a'.add (lv * inf.size))) (hv - lv) (m' - lv), by simp [Instr.sliceAt, Instr.slice, run_underlying hu, hrun, run_sizeOfI hi0, hml], ?_⟩
          refine .sl _ _ _ _ _ ⟨r1, rfl, ?_, fun g hg => ?_⟩
          · show Nat.sub hv lv ≤ m' - lv
            have : Nat.sub hv lv = hv - lv := rfl
            omega
          · rcases r4 g hg with ⟨_, h6⟩ | ⟨h5, h6, h7, h8⟩
            · omega
            · obtain ⟨b0, o0, s0⟩ := a'
              simp only at h5 h6 h7 h8
              subst h5
              rw [add_none]
              refine .inr ⟨rfl, h6, ?_, ?_⟩
              · show o0 + lv * inf.size = g.base + (a.off + lv * inf.size)
                omega
              · show o0 + lv * inf.size + (m' - lv) * inf.size ≤ g.n
                rw [Nat.add_assoc, ← Nat.add_mul, show lv + (m' - lv) = m' by omega]
                exact Nat.le_trans (Nat.add_le_add_left (Nat.mul_le_mul_right _ hb3) _) h8
end
end Go.Ev

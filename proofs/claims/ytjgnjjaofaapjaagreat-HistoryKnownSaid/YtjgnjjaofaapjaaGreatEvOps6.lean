import Derived.Test.YtjgnjjaofaapjaaGreatEvOps5
import Derived.Lib.ConvBytes
import Derived.Laws.BytesString
namespace Go.Ev
section
variable {P : Program} {ρ : Emb} {h : AH} {w : World} {id : Nat}

/-! Conversions. -/
theorem isByte_some {e : TypeId} (hb : isByte P e = true) : P.underlying e = some (.int .u8) ∧ ∃ inf, P.info? e = some inf ∧ inf.size = 1 := by
  unfold isByte at hb
  cases hu : P.underlying e with
  | none => simp [hu] at hb
  | some d =>
    cases d <;> simp only [hu] at hb <;> try cases hb
    rename_i k
    cases k <;> simp only at hb <;> try cases hb
    cases hi : P.info? e with
    | none => simp [hi] at hb
    | some inf =>
      simp only [hi, Nat.beq_eq] at hb
      exact ⟨rfl, inf, rfl, hb⟩

theorem bytesOfVals_rel : ∀ {l l' : List Value} {bs : List UInt8}, bytesOfVals l = some bs → VsRel ρ l l' → l' = l := by
  intro l
  induction l with
  | nil => intro l' bs _ r; cases r; rfl
  | cons v l ih =>
    intro l' bs e r
    cases r with
    | cons v v' l l' hr t =>
      unfold bytesOfVals at e
      cases hr <;> simp only at e <;> try cases e
      rename_i k n
      cases k <;> simp only at e <;> try cases e
      cases hb : bytesOfVals l with
      | none => simp [hb] at e
      | some b => rw [ih hb t]

theorem run_toString_loop (f : Value → ByteArray → Sem (ForInStep ByteArray)) (hf : ∀ (n : Int) (r : ByteArray), (f (.int .u8 n) r).run P w = .ok (.yield (r.push (UInt8.ofNat n.toNat))) w) :
    ∀ (l : List Value) (bs : List UInt8) (s : ByteArray), bytesOfVals l = some bs → (forIn l s f).run P w = .ok ⟨s.data ++ bs.toArray⟩ w := by
  intro l
  induction l with
  | nil => intro bs s e; simp [bytesOfVals] at e; subst e; simp
  | cons v l ih =>
    intro bs s e
    unfold bytesOfVals at e
    cases v <;> simp only at e <;> try cases e
    rename_i k n
    cases k <;> simp only at e <;> try cases e
    cases hb : bytesOfVals l with
    | none => simp [hb] at e
    | some b =>
      simp only [hb, Option.map_some, Option.some.injEq] at e
      subst e
      rw [List.forIn_cons]
      simp only [Sem.run_bind, hf, Result.andThen_ok]
      rw [ih b _ hb]
      simp [ByteArray.push]

theorem bytesToString_run {a' : Addr} {len cap' : Nat} {l : List Value} {bs : List UInt8} (hl : (loadCells a' len).run P w = .ok l.toArray w) (hb : bytesOfVals l = some bs) :
    (Conv.bytesToString (.slice (some a') len cap')).run P w = .ok (.string ⟨bs.toArray⟩) w := by
  unfold Conv.bytesToString
  simp only [Sem.run_bind, hl, Result.andThen_ok, List.forIn_toArray]
  rw [run_toString_loop _ (by intro n r; simp) l bs ByteArray.empty hb]
  simp

theorem convert_int {src dst : TypeId} {sd : TypeDesc} {k kk : IntKind} {n : Int} (hs : P.underlying src = some sd) (hd : P.underlying dst = some (.int k)) : (convert src dst (.int kk n)).run P w = .ok (.int k (k.wrap n)) w := by
  simp [convert, run_underlying hs, run_underlying hd, Conv.intToInt]

theorem valsOfBytes_plain (s : ByteArray) : (valsOfBytes s).all plain1 = true := by
  rw [List.all_eq_true]
  intro v hv
  simp only [valsOfBytes, List.mem_map] at hv
  obtain ⟨b, _, rfl⟩ := hv
  rfl

theorem op_convBytes (wr : WRel ρ h w) {src dst e : TypeId} {s : ByteArray} (hs : P.underlying src = some .string) (hd : P.underlying dst = some (.slice e)) (he : P.underlying e = some (.int .u8)) :
    Sim ρ h w id (convBytes id s) (valR ((convert src dst (.string s)).run P w)) := by
  unfold convBytes retV
  refine sim_new fun hg hlt => ?_
  have hcap : s.size ≤ grownCap w s.size 0 e := by simp only [grownCap, Question.cut]; omega
  have hsz : s.data.size = s.size := rfl
  have harr : (Lib.bytesCells w e s).size = grownCap w s.size 0 e := by
    simp only [Lib.bytesCells, Array.size_append, Array.size_map, Array.size_replicate]; omega
  have gr : Grow1 w (Lib.bytesWorld w e s) (.cells (Lib.bytesCells w e s) e ((Lib.bytesCells w e s).size, (Lib.bytesCells w e s).size + 1)) :=
    ⟨by simp [Lib.bytesWorld, World.freeze]; rfl, by simp [Lib.bytesWorld, World.freeze], by simp [Lib.bytesWorld, World.freeze]; rfl, Lib.bytesWorld_size w e s, Lib.bytesWorld_at_new w e s, fun {b} hb => Lib.bytesWorld_at_old w e s b hb⟩
  obtain ⟨ρ', hρ, h1, h2⟩ := wr.newCells (cs := valsOfBytes s) (cs' := valsOfBytes s) hg hlt e (List.replicate (grownCap w s.size 0 e - s.size) (.int .u8 0)) (by simp [Lib.bytesCells, valsOfBytes]) (plains_rel (valsOfBytes_plain s)) (.inr (Nat.le_refl _)) gr
  refine ⟨ρ', _, h2, h1, _, by rw [Lib.run_convert_string_bytes w src dst e s hs hd he]; rfl, ?_⟩
  subst hρ
  exact slice_new (cap := grownCap w s.size 0 e) (s := 1) rfl hcap (by simp [harr])

theorem op_convStr (wr : WRel ρ h w) {src dst e : TypeId} {a a' : Option Addr} {len c cap' : Nat} (hx : VRel ρ (.slice a len c) (.slice a' len cap')) (hs : P.underlying src = some (.slice e)) (he : P.underlying e = some (.int .u8)) (hd : P.underlying dst = some .string) :
    Sim ρ h w id (convStr len a) (valR ((convert src dst (.slice a' len cap')).run P w)) := by
  have hconv := run_convert_bytes_string (P := P) w src dst e a' len cap' hs he hd
  cases hx with
  | slNil =>
    unfold convStr
    simp only
    refine sim_val (v' := .string .empty) wr ?_ (.string _)
    rw [hconv]
    simp [Conv.bytesToString]
  | sl a a' _ _ _ hr =>
    unfold convStr
    simp only
    cases hok : okAt a with
    | false => exact sim_fail
    | true =>
      simp only [cond_true]
      unfold aCells
      refine sim_get fun o hg => ?_
      cases o with
      | cells cs rw =>
        simp only
        cases ht : takeCells cs a.off len with
        | none => exact sim_fail
        | some l =>
          simp only
          cases hb : bytesOfVals l with
          | none => exact sim_fail
          | some bs =>
            simp only
            have key : ∃ l', VsRel ρ l l' ∧ (loadCells a' len).run P w = .ok l'.toArray w := by
              by_cases h0 : len = 0
              · subst h0
                have : l = [] := List.length_eq_zero_iff.1 (takeCells_some ht).2.2
                subst this
                exact ⟨[], .nil, by simpa using run_loadCells_list (P := P) w a' [] (by simp)⟩
              · have hr' : AddrRel ρ a a' := ⟨hr.1, hr.2.1, fun g hgi => by
                  rcases hr.2.2.2 g hgi with ⟨h1, _⟩ | ⟨h1, h2, h3, _⟩
                  · exact absurd h1 h0
                  · exact ⟨h1, h2, h3⟩⟩
                obtain ⟨l', h1, h2, _⟩ := loadCells_rel (P := P) wr hr' hg ht
                exact ⟨l', h1, h2⟩
            obtain ⟨l', h1, h2⟩ := key
            rw [bytesOfVals_rel hb h1] at h2
            exact sim_val wr (by rw [hconv, bytesToString_run h2 hb]; rfl) (.string _)
      | amap es => exact sim_fail
      | dead => exact sim_fail

theorem op_convert (wr : WRel ρ h w) (src dst : TypeId) {x x' : Value} (hx : VRel ρ x x') : Sim ρ h w id (oConvert P id src dst x) (valR ((convert src dst x').run P w)) := by
  unfold oConvert
  cases x with
  | int kk n =>
    simp only
    cases hs : P.underlying src with
    | none => exact sim_fail
    | some sd =>
      simp only
      cases hd : P.underlying dst with
      | none => exact sim_fail
      | some dd =>
        cases dd <;> simp only <;> try exact sim_fail
        rename_i k
        cases hx
        exact sim_val wr (by rw [convert_int hs hd]; rfl) (.int _ _)
  | string s =>
    simp only
    cases hs : P.underlying src with
    | none => exact sim_fail
    | some sd =>
      cases hd : P.underlying dst with
      | none => cases sd <;> exact sim_fail
      | some dd =>
        cases sd <;> try exact sim_fail
        cases dd <;> simp only <;> try exact sim_fail
        case string =>
          cases hx
          exact sim_val (v' := .string s) wr (by simp [convert, run_underlying hs, run_underlying hd]) (.string _)
        case slice e =>
          cases hb : isByte P e with
          | false => exact sim_fail
          | true =>
            cases hx
            exact op_convBytes wr hs hd (isByte_some hb).1
  | slice a len c =>
    simp only
    cases hs : P.underlying src with
    | none => exact sim_fail
    | some sd =>
      cases hd : P.underlying dst with
      | none => cases sd <;> exact sim_fail
      | some dd =>
        cases sd <;> try exact sim_fail
        cases dd <;> simp only <;> try exact sim_fail
        rename_i e
        cases hb : isByte P e with
        | false => exact sim_fail
        | true =>
          simp only [cond_true]
          cases x' with
          | slice a' len' cap' =>
            have hlen : len' = len := by cases hx <;> rfl
            subst hlen
            exact op_convStr wr hx hs (isByte_some hb).1 hd
          | _ => cases hx
  | _ => exact sim_fail
end
end Go.Ev

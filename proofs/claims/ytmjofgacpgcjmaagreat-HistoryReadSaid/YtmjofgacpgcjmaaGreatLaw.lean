import Derived.Test.YtmjofgacpgcjmaaGreatFactL
import Derived.Test.YtmjofgacpgcjmaaGreatSpA
import Derived.Test.YtmjofgacpgcjmaaGreatSeB
import Derived.Recover
import Derived.WalkKit
import Derived.Test.YtmjofgacpgcjmaaGreatSeF
import Derived.Laws.Bits64
import Derived.Laws.Shifts
section
set_option maxRecDepth 100000
namespace Go.Ev
open Go.Proofs Go.RowKit
theorem tree_cmp (a : Int) (af : Bool) (b : Int) (bf : Bool) : endT (evalCallS E0 noS 1000 58 [.agg [.int .i64 false a, .bool false af], .agg [.int .i64 false b, .bool false bf]] SH.empty) = T_cmp a af b bf := by kernel_rfl
theorem tab_cmp : TabOK Tryz.prog 58 (scalA (specOf sCmp)) := scal_tab' fun sargs v h => by
  unfold sCmp at h
  split at h
  · rename_i _ a _ af _ b _ bf
    cases h
    refine ⟨rfl, rfl, fun w => scal_of_tree sound0 TabHom.none 1000 (sargs := [.agg [.int .i64 false a, .bool false af], .agg [.int .i64 false b, .bool false bf]]) (tree_cmp a af b bf) rfl rfl (resInt_eq ?_) w⟩
    unfold T_cmp
    repeat' (first | exact .leaf ⟨_, _, rfl⟩ | refine .node (fun _ => ?_) fun _ => ?_)
  · cases h
theorem hom_cmp : ∀ args id, Hom HV (scalS sCmp args id) (scalA (specOf sCmp) (dens args) id) := scal_hom fun args v h => by
  unfold sCmp at h
  split at h
  · cases h; rfl
  · cases h

theorem tree_reach (x : Int) (xf : Bool) (y : Int) (yf : Bool) : endT (evalCallS E0 noS 1000 60 [.int .i64 true 64, .sl 0 (.c 0) ⟨true, 1⟩ 4] (mkH [.cells [.int .i64 false x, .bool false xf, .int .i64 false y, .bool false yf] false])) = T_reach x xf y yf := by kernel_rfl
theorem tab_reach : TabOK Tryz.prog 60 (rowA 4 sReach) := row_tab fun a l n v h hl hp1 hp2 ρ w args' hro wr ra => by
  unfold sReach at h
  split at h
  · rename_i _ m _ x _ xf _ y _ yf
    cases hm : decide (m = 64) with
    | false => rw [hm] at h; cases h
    | true =>
      rw [hm] at h
      cases h
      have hm : m = 64 := by simpa using hm
      subst hm
      have hn : n = 1 := by simp at hl; omega
      subst hn
      have hh : Holds (fun x => ∃ l b, x = .returned (.bool l b)) (T_reach x xf y yf) := by
        unfold T_reach
        repeat' (first | exact .leaf ⟨_, _, rfl⟩ | refine .node (fun _ => ?_) fun _ => ?_)
      exact call_of_tree sound0 TabHom.none 1000 (tree_reach x xf y yf) hro (resBool_eq hh) rfl wr ra
  · cases h
theorem hom_reach : ∀ args id, Hom HV (rowSym 4 sReach args id) (rowA 4 sReach (dens args) id) := row_hom fun a l v h => by
  unfold sReach at h
  split at h
  · rename_i _ m _ x _ xf _ y _ yf
    cases hm : decide (m = 64) with
    | false => rw [hm] at h; cases h
    | true =>
      rw [hm] at h
      cases h
      refine ⟨.bool false (reachV x xf y yf), ?_, rfl⟩
      show (bif decide (m = 64) then _ else _) = _
      rw [hm]
      rfl
  · cases h

noncomputable def EL1 : Env := (E0.add (one 58 (scalA (specOf sCmp)))).add (one 60 (rowA 4 sReach))
noncomputable def SL1 : STab := addS (oneSym 60 (rowSym 4 sReach)) (addS (oneSym 58 (scalS sCmp)) noS)
theorem soundL1 : Sound EL1 := (sound0.add tab_cmp).add tab_reach
theorem thomL1 : TabHom EL1 SL1 := (TabHom.none.add hom_cmp).add hom_reach
end Go.Ev
end
section
set_option maxRecDepth 100000
namespace Go.Ev
open Go.Proofs Go.RowKit
abbrev setArg (g : SetD) : List SV := [.agg g.sv]
theorem tree_cs (g : SetD) : endT (evalCallS EL1 SL1 1000 22 (setArg g) SH.empty) = T_cs g.gx g.gxf g.gy g.gyf g.dt g.dtf g.most g.rounds g.sess g.staged g.queue := by kernel_rfl
theorem tree_op (o : OpD) : endT (evalCallS EL1 SL1 1000 23 [.agg [.int .i64 false o.k, .int .i64 false o.s, .str false o.b, .int .i64 false o.n]] SH.empty) = T_op o.k o.s o.b o.n := by kernel_rfl

theorem sCs_hom (F : SetD → Int) : ∀ args id, Hom HV (scalS (sCs F) args id) (scalA (specOf (sCs F)) (dens args) id) := scal_hom fun args v h => by
  unfold sCs at h
  split at h
  · cases h; rfl
  · cases h
theorem sOpE_hom (F : OpD → Int) : ∀ args id, Hom HV (scalS (sOpE F) args id) (scalA (specOf (sOpE F)) (dens args) id) := scal_hom fun args v h => by
  unfold sOpE at h
  split at h
  · rename_i l1 k l2 s b l3 n
    cases hb : strOf b with
    | none => rw [hb] at h; cases h
    | some p =>
      obtain ⟨l, t⟩ := p
      rw [hb] at h
      cases h
      have e : dens [.agg [.int .i64 l1 k, .int .i64 l2 s, b, .int .i64 l3 n]] = [.agg #[.int .i64 k, .int .i64 s, .string t, .int .i64 n]] := by simp only [dens, SV.den, strOf_den hb]
      rw [e]
      rfl
  · cases h
theorem sCs_tab {f : FuncId} {F : SetD → Int} (h : ∀ g w, Calls Tryz.prog f (dens (setArg g)).toArray w fun e w' => e = .returned (.int .i64 (F g)) ∧ Below w.heap.size w w') : TabOK Tryz.prog f (scalA (specOf (sCs F))) := scal_tab' fun sargs v hs => by
  unfold sCs at hs
  split at hs
  · rename_i _ a _ af _ b _ bf _ c _ cf _ m _ r _ s _ t _ q
    cases hs
    exact ⟨rfl, rfl, fun w => h ⟨a, af, b, bf, c, cf, m, r, s, t, q⟩ w⟩
  · cases hs
theorem sOpE_tab {f : FuncId} {F : OpD → Int} (h : ∀ o w, Calls Tryz.prog f (dens [.agg [.int .i64 false o.k, .int .i64 false o.s, .str false o.b, .int .i64 false o.n]]).toArray w fun e w' => e = .returned (.int .i64 (F o)) ∧ Below w.heap.size w w') : TabOK Tryz.prog f (scalA (specOf (sOpE F))) := scal_tab' fun sargs v hs => by
  unfold sOpE at hs
  split at hs
  · rename_i l1 k l2 s b l3 n
    cases hb : strOf b with
    | none => rw [hb] at hs; cases hs
    | some p =>
      obtain ⟨l, t⟩ := p
      rw [hb] at hs
      cases hs
      have e : dens [.agg [.int .i64 l1 k, .int .i64 l2 s, b, .int .i64 l3 n]] = [.agg #[.int .i64 k, .int .i64 s, .string t, .int .i64 n]] := by simp only [dens, SV.den, strOf_den hb]
      rw [e]
      exact ⟨rfl, rfl, fun w => h ⟨k, s, t, n⟩ w⟩
  · cases hs
theorem tab_cs : TabOK Tryz.prog 22 (scalA (specOf (sCs csV))) := sCs_tab fun g w => scal_of_tree soundL1 thomL1 1000 (tree_cs g) rfl rfl (resInt_eq (by
  unfold T_cs
  repeat' (first | exact .leaf ⟨_, _, rfl⟩ | refine .node (fun _ => ?_) fun _ => ?_))) w
theorem tab_op : TabOK Tryz.prog 23 (scalA (specOf (sOpE opV))) := sOpE_tab fun o w => scal_of_tree soundL1 thomL1 1000 (tree_op o) rfl rfl (resInt_eq (by
  unfold T_op
  repeat' (first | exact .leaf ⟨_, _, rfl⟩ | refine .node (fun _ => ?_) fun _ => ?_))) w
noncomputable def E2 : Env := (EL1.add (one 22 (scalA (specOf (sCs csV))))).add (one 23 (scalA (specOf (sOpE opV))))
noncomputable def S2 : STab := addS (oneSym 23 (scalS (sOpE opV))) (addS (oneSym 22 (scalS (sCs csV))) SL1)
theorem sound2 : Sound E2 := (soundL1.add tab_cs).add tab_op
theorem thom2 : TabHom E2 S2 := (thomL1.add (sCs_hom csV)).add (sOpE_hom opV)
end Go.Ev
end
section
set_option maxRecDepth 100000
namespace Go.Ev
open Go.Proofs Go.RowKit
noncomputable def ckC : Code := match Tryz.prog.funcs[10]? with | some fn => fn.body.getD .skip | none => .skip
noncomputable def ckF : Func := match Tryz.prog.funcs[10]? with | some fn => fn | none => default
theorem ckF_some : Tryz.prog.funcs[10]? = some ckF := by kernel_rfl
theorem ckC_some : ckF.body = some ckC := by kernel_rfl
theorem ckF_n : ckF.ntmps = 52 := by kernel_rfl
theorem ckC_plans : plansIn ckC = true := by kernel_rfl
noncomputable abbrev ckO (g : SetD) (len : Nat) (k s : Nat → Int) (b : Nat → ByteArray) (n : Nat → Int) : List SObj := [opsO len k s b n, .cells (g.sv ++ [.sl 0 (.c 0) ⟨false, len⟩ 4]) true]
set_option maxRecDepth 100000 in
theorem check_arr (g : SetD) (len : Nat) (k s : Nat → Int) (b : Nat → ByteArray) (n : Nat → Int) {ρ0 : Emb} {w : World} {args' : Array Value} (hro : ∀ i g, ρ0 i = .img g → g.rw = false)
    (wr : WRel ρ0 (mkH [opsO len k s b n]).den w) (ra : VsRel ρ0 (dens [.agg (g.sv ++ [slO len])]) args'.toList) :
    Calls E2.P 10 args' w fun e w' => e = .returned (.int .i64 (checkR csV opV g (opsL len k s b n))) ∧ Below w.heap.size w w' := by
  refine calls_StL ckF_some ckC_some ckF_n (by decide) (by simp) wr ra fun bb st => ?_
  -- the end of each way
  have fin : ∀ (v : Int) (l : Bool) b1 w1, StL ρ0 w 52 [(2, .int .i64 l v)] [] b1 w1 → v = checkR csV opV g (opsL len k s b n) → Leaves E2.P ckF b1.tmps (fun e w' => e = .returned (.int .i64 (checkR csV opV g (opsL len k s b n))) ∧ Below w.heap.size w w') b1.defers .returning w1 := by
    intro v l b1 w1 st hv
    refine StL.finish (vs := [.int .i64 l v]) (fun j => by kernel_rfl) st fun ρ v' rv _ fr => ?_
    have := plainR_eq (v := .int .i64 v) rfl rv
    exact ⟨by rw [this, hv], below_of_ro hro fr⟩
  refine StL.pre sound2 thom2 1000 3 (V := vsel ⟨[1, 2, 4], [0, 2]⟩ ⟨[2], []⟩ ⟨[], []⟩) (T := .node (csV g != 0) (.leaf ⟨.ret, [.int .i64 false (csV g)], []⟩) (.node (decide ((len : Int) > 400)) (.leaf ⟨.ret, [.int .i64 true 6], []⟩)
    (.leaf ⟨.normal, [.ptr 1 (.c 0), .int .i64 true 0, .int .i64 true 0], ckO g len k s b n⟩)))
    (by decide) (vok _ _ _ (by decide) (by decide) (by decide)) ckC_plans (by kernel_rfl) (fun j => by kernel_rfl) st ?_
  refine Holds.node (fun h0 => ?_) fun h0 => Holds.node (fun h1 => ?_) fun h1 => ?_
  · exact .leaf ⟨rfl, fun b1 w1 st => fin _ _ b1 w1 st (by unfold checkR; rw [if_neg (by simpa using h0)])⟩
  · exact .leaf ⟨rfl, fun b1 w1 st => fin _ _ b1 w1 st (by unfold checkR; rw [if_pos (by simpa using h0), if_pos (by rw [opsL_length]; simp at h1; omega)])⟩
  have hcs : csV g = 0 := by simpa using h0
  have hl : len ≤ 400 := by simp at h1; omega
  have hres : checkR csV opV g (opsL len k s b n) = if lensR 0 (opsL len k s b n) = true then 6 else firstE opV (opsL len k s b n) := by
    unfold checkR
    rw [if_pos hcs, if_neg (by rw [opsL_length]; omega)]
  refine .leaf ⟨rfl, fun b1 w1 st => ?_⟩
  show (postC 4 ckC).wp E2.P (bodyPostD E2.P ckF _) b1 w1
  -- the first loop
  refine wp_seqP (by kernel_rfl) ?_
  refine wp_seqP (by kernel_rfl) ?_
  refine StL.piece sound2 thom2 1000 (V := vsel ⟨[1, 2, 4, 21, 22, 23], [0, 1]⟩ ⟨[2], []⟩ ⟨[], []⟩) (T := .leaf ⟨.normal, [.ptr 1 (.c 0), .int .i64 true 0, .int .i64 true 0, slO len, .int .i64 false len, .int .i64 true 0], ckO g len k s b n⟩)
    (by decide) (vok _ _ _ (by decide) (by decide) (by decide)) (by kernel_rfl) (fun j => by kernel_rfl) st ?_
  refine Holds.leaf ⟨rfl, fun b2 w2 st => ?_⟩
  show Code.wp E2.P (seqR (seqL (postC 4 ckC))) _ b2 w2
  refine wp_blockP (by kernel_rfl) ?_
  refine wp_loopP (by kernel_rfl) (fun m x w' => ∃ (i : Nat) (acc : Int), m = len - i ∧ i ≤ len ∧ lensR 0 (opsL len k s b n) = lensR acc ((opsL len k s b n).drop i) ∧
    StL ρ0 w 52 ([1, 2, 4, 21, 22, 23].zip [.ptr 1 (.c 0), .int .i64 true 0, .int .i64 false acc, slO len, .int .i64 false len, .int .i64 false i]) (ckO g len k s b n) x w') ?_ ⟨0, 0, rfl, Nat.zero_le _, by simp, st.conv rfl rfl⟩
  rintro _ b3 w3 ⟨i, acc, rfl, hi, hacc, st⟩
  refine StL.piece sound2 thom2 1000 (V := vsel ⟨[1, 2, 4, 21, 22, 23], [0, 1]⟩ ⟨[2], []⟩ ⟨[1, 2], [0, 1]⟩) (T := .node (decide ((i : Int) < (len : Int))) (.node (decide ((0 : Int) ≤ (i : Int)) && (i : Int).toNat.blt len) (.node (i.blt len)
      (.node (decide (((b i).size : Int) > IntKind.i64.wrap (65536 - acc))) (.leaf ⟨.ret, [.int .i64 true 6], []⟩)
        (.leaf ⟨.normal, [.ptr 1 (.c 0), .int .i64 true 0, .int .i64 false (IntKind.i64.wrap (acc + ((b i).size : Int))), slO len, .int .i64 false len, .int .i64 false (IntKind.i64.wrap ((i : Int) + 1))], ckO g len k s b n⟩)) .fail) .fail)
      (.leaf ⟨.exit 0, [.ptr 1 (.c 0), .int .i64 true 0], ckO g len k s b n⟩))
    (by decide) (vok _ _ _ (by decide) (by decide) (by decide)) (by kernel_rfl) (fun j => by kernel_rfl) st ?_
  refine Holds.node (fun h2 => ?_) fun h2 => ?_
  · have hlt : i < len := by simpa using h2
    have hblt : i.blt len = true := blt_true hlt
    refine Holds.node (fun _ => Holds.node (fun _ => Holds.node (fun h3 => ?_) fun h3 => ?_) fun hf => absurd hf (by rw [hblt]; decide)) fun hf => absurd hf (by simp [hblt])
    · refine .leaf ⟨rfl, fun b4 w4 st => ?_⟩
      refine fin _ _ b4 w4 st ?_
      rw [hres, hacc, opsL_drop hlt]
      simp only [decide_eq_true_eq] at h3
      rw [lensR, if_pos h3, if_pos rfl]
    · refine .leaf ⟨rfl, fun b4 w4 st => ?_⟩
      simp only [decide_eq_false_iff_not] at h3
      refine ⟨len - (i + 1), by omega, i + 1, IntKind.i64.wrap (acc + ((b i).size : Int)), rfl, hlt, ?_, st.conv ?_ rfl⟩
      · rw [hacc, opsL_drop hlt, lensR, if_neg h3]
      · have hw : IntKind.i64.wrap ((i : Int) + 1) = ((i + 1 : Nat) : Int) := wrap64_small (n := i + 1) (by omega)
        simp only [dens, SV.den, hw]
  · have hge : i = len := by simp at h2; omega
    refine .leaf ⟨rfl, fun b4 w4 st => ?_⟩
    have hlen0 : lensR 0 (opsL len k s b n) = false := by
      rw [hacc, hge, List.drop_eq_nil_of_le (by rw [opsL_length]; exact Nat.le_refl _)]
      rfl
    have hres2 : checkR csV opV g (opsL len k s b n) = firstE opV (opsL len k s b n) := by rw [hres, hlen0]; rfl
    show Code.wp E2.P (seqR (postC 4 ckC)) _ b4 w4
    -- the second loop
    refine wp_seqP (by kernel_rfl) ?_
    refine wp_seqP (by kernel_rfl) ?_
    refine StL.piece sound2 thom2 1000 (V := vsel ⟨[1, 2, 40, 41, 42], [0, 1]⟩ ⟨[2], []⟩ ⟨[], []⟩) (T := .leaf ⟨.normal, [.ptr 1 (.c 0), .int .i64 true 0, slO len, .int .i64 false len, .int .i64 true 0], ckO g len k s b n⟩)
      (by decide) (vok _ _ _ (by decide) (by decide) (by decide)) (by kernel_rfl) (fun j => by kernel_rfl) st ?_
    refine Holds.leaf ⟨rfl, fun b5 w5 st => ?_⟩
    show Code.wp E2.P (seqR (seqL (seqR (postC 4 ckC)))) _ b5 w5
    refine wp_blockP (by kernel_rfl) ?_
    refine wp_loopP (by kernel_rfl) (fun m x w' => ∃ i : Nat, m = len - i ∧ i ≤ len ∧ firstE opV (opsL len k s b n) = firstE opV ((opsL len k s b n).drop i) ∧
      StL ρ0 w 52 ([1, 2, 40, 41, 42].zip [.ptr 1 (.c 0), .int .i64 true 0, slO len, .int .i64 false len, .int .i64 false i]) (ckO g len k s b n) x w') ?_ ⟨0, rfl, Nat.zero_le _, by simp, st.conv rfl rfl⟩
    rintro _ b6 w6 ⟨i, rfl, hi, hacc, st⟩
    refine StL.piece sound2 thom2 1000 (V := vsel ⟨[1, 2, 40, 41, 42], [0, 1]⟩ ⟨[2], []⟩ ⟨[1, 2], [0, 1]⟩) (T := .node (decide ((i : Int) < (len : Int))) (.node (decide ((0 : Int) ≤ (i : Int)) && (i : Int).toNat.blt len) (.node (i.blt len)
        (.node (opV ⟨k i, s i, b i, n i⟩ != 0) (.leaf ⟨.ret, [.int .i64 false (opV ⟨k i, s i, b i, n i⟩)], []⟩)
          (.leaf ⟨.normal, [.ptr 1 (.c 0), .int .i64 true 0, slO len, .int .i64 false len, .int .i64 false (IntKind.i64.wrap ((i : Int) + 1))], ckO g len k s b n⟩)) .fail) .fail)
        (.leaf ⟨.exit 2, [.ptr 1 (.c 0), .int .i64 true 0], ckO g len k s b n⟩))
      (by decide) (vok _ _ _ (by decide) (by decide) (by decide)) (by kernel_rfl) (fun j => by kernel_rfl) st ?_
    refine Holds.node (fun h2 => ?_) fun h2 => ?_
    · have hlt : i < len := by simpa using h2
      have hblt : i.blt len = true := blt_true hlt
      refine Holds.node (fun _ => Holds.node (fun _ => Holds.node (fun h3 => ?_) fun h3 => ?_) fun hf => absurd hf (by rw [hblt]; decide)) fun hf => absurd hf (by simp [hblt])
      · refine .leaf ⟨rfl, fun b7 w7 st => ?_⟩
        refine fin _ _ b7 w7 st ?_
        rw [hres2, hacc, opsL_drop hlt, firstE, if_neg (by simpa using h3)]
      · refine .leaf ⟨rfl, fun b7 w7 st => ?_⟩
        refine ⟨len - (i + 1), by omega, i + 1, rfl, hlt, ?_, st.conv ?_ rfl⟩
        · rw [hacc, opsL_drop hlt, firstE, if_pos (by simpa using h3)]
        · have hw : IntKind.i64.wrap ((i : Int) + 1) = ((i + 1 : Nat) : Int) := wrap64_small (n := i + 1) (by omega)
          simp only [dens, SV.den, hw]
    · have hge : i = len := by simp at h2; omega
      refine .leaf ⟨rfl, fun b7 w7 st => ?_⟩
      have hz : checkR csV opV g (opsL len k s b n) = 0 := by
        rw [hres2, hacc, hge, List.drop_eq_nil_of_le (by rw [opsL_length]; exact Nat.le_refl _)]
        rfl
      show Code.wp E2.P (seqR (seqR (postC 4 ckC))) _ b7 w7
      refine StL.piece sound2 thom2 1000 (V := vsel ⟨[], []⟩ ⟨[2], []⟩ ⟨[], []⟩) (T := .leaf ⟨.ret, [.int .i64 true 0], []⟩)
        (by decide) (vok _ _ _ (by decide) (by decide) (by decide)) (by kernel_rfl) (fun j => by kernel_rfl) st ?_
      exact Holds.leaf ⟨rfl, fun b8 w8 st => fin _ _ b8 w8 st hz.symm⟩

theorem check_nil (g : SetD) (w : World) : Calls Tryz.prog 10 (dens [scrS g nilO]).toArray w fun e w' => e = .returned (.int .i64 (checkR csV opV g [])) ∧ Below w.heap.size w w' := by
  have tree : endT (evalCallS E2 S2 1000 10 [scrS g nilO] SH.empty) = .node (csV g != 0) (.leaf (.returned (.int .i64 false (csV g)))) (.leaf (.returned (.int .i64 true 0))) := by kernel_rfl
  refine scal_of_tree sound2 thom2 1000 tree rfl rfl ?_ w
  refine Holds.node (fun h => .leaf ?_) fun h => .leaf ?_
  · unfold checkR
    rw [if_neg (by simpa using h)]
    rfl
  · unfold checkR
    rw [if_pos (by simpa using h)]
    rfl
theorem tab_check : TabOK Tryz.prog 10 (scrA fun g ops => .int .i64 (checkR csV opV g ops)) :=
  scr_tab (fun _ _ => rfl) check_nil fun g len k s b n _ _ _ _hl hro wr ra => check_arr g len k s b n hro wr ra
end Go.Ev
end
section
set_option maxRecDepth 100000
namespace Go.Ev
open Go.Proofs Go.RowKit
/-! The table for the laws. -/
def sAw : List SV → Option SV
  | [] => some (.bool true true)
  | _ :: _ => none
theorem sAw_hom : ∀ args id, Hom HV (scalS sAw args id) (scalA (specOf sAw) (dens args) id) := scal_hom fun args v h => by
  unfold sAw at h
  split at h
  · cases h; rfl
  · cases h
theorem tab_awake : TabOK Tryz.prog 5 (scalA (specOf sAw)) := scal_tab' fun sargs v hs => by
  unfold sAw at hs
  split at hs
  · cases hs
    exact ⟨rfl, rfl, fun w => awake_ok w⟩
  · cases hs
noncomputable def E4 : Env := (E2.add (one 5 (scalA (specOf sAw)))).add (one 10 (scrA fun g ops => .int .i64 (checkR csV opV g ops)))
noncomputable def S4 : STab := addS (oneSym 10 (scrSym fun g ops => .int .i64 false (checkR csV opV g ops))) (addS (oneSym 5 (scalS sAw)) S2)
theorem sound4 : Sound E4 := (sound2.add tab_awake).add tab_check
theorem thom4 : TabHom E4 S4 := (thom2.add sAw_hom).add (scr_hom fun _ _ => rfl)
end Go.Ev
end
section
set_option maxRecDepth 100000
set_option linter.unusedVariables false
set_option linter.unusedSimpArgs false
namespace Go.Ev
open Go.Proofs Go.RowKit
/-! Small helps. -/
theorem Holds.yes {α : Type} {p : α → Prop} {c : Bool} {t f : Tree α} (h : c = true) (k : Holds p t) : Holds p (.node c t f) := Holds.node (fun _ => k) fun hf => by rw [h] at hf; cases hf
theorem Holds.no {α : Type} {p : α → Prop} {c : Bool} {t f : Tree α} (h : c = false) (k : Holds p f) : Holds p (.node c t f) := Holds.node (fun hf => by rw [h] at hf; cases hf) fun _ => k
theorem bleA (x : Nat) : Nat.ble (Nat.div 0 4 + x) x = true := Nat.ble_eq_true_of_le (show 0 + x ≤ x by omega)
theorem capA {x : Nat} (h : x ≤ 450) : (Nat.ble x 70368744177664 && capRoom x 40) = true := by
  rw [Nat.ble_eq_true_of_le (by omega : x ≤ 70368744177664), Bool.true_and]
  exact Nat.ble_eq_true_of_le (by omega)
theorem long450 {l : List OpD} (h : longQ l = false) : l.length ≤ 450 := by
  simp only [longQ, decide_eq_false_iff_not] at h
  omega
theorem bleQ (x : Nat) : Nat.ble (Nat.div 0 4 + x) x = true := Nat.ble_eq_true_of_le (show 0 + x ≤ x by omega)
theorem opsL_zero (k s : Nat → Int) (b : Nat → ByteArray) (n : Nat → Int) : opsL 0 k s b n = [] := rfl
theorem longQ_nil : longQ [] = false := by decide
end Go.Ev
end
section
set_option maxRecDepth 100000
namespace Go.Ev
open Go.Proofs Go.RowKit
/-! history.Bytes -/
noncomputable def hbC : Code := match Tryz.prog.funcs[7]? with | some fn => fn.body.getD .skip | none => .skip
noncomputable def hbF : Func := match Tryz.prog.funcs[7]? with | some fn => fn | none => default
noncomputable abbrev roomO (g : SetD) : SObj := .cells [.int .i64 false g.gx, .bool false g.gxf, .int .i64 false g.gy, .bool false g.gyf, .int .i64 false g.dt, .bool false g.dtf, .int .i64 false g.most, .int .i64 false g.rounds] true
noncomputable abbrev scO (g : SetD) (sl : SV) : SObj := .cells (g.sv ++ [sl]) true
noncomputable abbrev numS (v f : Int) : List SV := (be8 (IntKind.u64.wrap v)).map (fun x => .int .u8 false x) ++ [.int .u8 true f]
noncomputable abbrev l6O (g : SetD) (n : Int) : SObj := .cells [.int .i64 false g.most, .int .i64 false g.rounds, .int .i64 false g.sess, .int .i64 false g.staged, .int .i64 false g.queue, .int .i64 false n] true
/-- The bytes of the three numbers. -/
noncomputable def fl (b : Bool) : Int := bif b then 1 else 0
noncomputable def hd27 (g : SetD) (a b c : Int) : List Int := be8 (IntKind.u64.wrap g.gx) ++ [a] ++ (be8 (IntKind.u64.wrap g.gy) ++ [b] ++ (be8 (IntKind.u64.wrap g.dt) ++ [c]))
noncomputable def hdF (l : List Int) (i : Nat) : Int := l.getD i 0
noncomputable abbrev hbL (g : SetD) (sl : SV) (O : List SObj) (i : Nat) (a b c : Int) : Tree View := .leaf ⟨.normal, [.ptr i (.c 0), .sl (i + 1) (.c 0) ⟨true, 27⟩ 1, .ptr (i + 2) (.c 0)], O ++ [scO g sl, .cells (numS g.gx a ++ numS g.gy b ++ numS g.dt c) true, roomO g]⟩
noncomputable abbrev hbT (g : SetD) (sl : SV) (O : List SObj) (i : Nat) (ops : List OpD) : Tree View :=
  .node (checkR csV opV g ops != 0) (.leaf ⟨.ret, [.str true ⟨#[]⟩, .int .i64 false (checkR csV opV g ops)], []⟩)
    (.node g.gxf (.node g.gyf (.node g.dtf (hbL g sl O i 1 1 1) (hbL g sl O i 1 1 0)) (.node g.dtf (hbL g sl O i 1 0 1) (hbL g sl O i 1 0 0)))
      (.node g.gyf (.node g.dtf (hbL g sl O i 0 1 1) (hbL g sl O i 0 1 0)) (.node g.dtf (hbL g sl O i 0 0 1) (hbL g sl O i 0 0 0))))
theorem hbF_some : Tryz.prog.funcs[7]? = some hbF := by kernel_rfl
theorem hbC_some : hbF.body = some hbC := by kernel_rfl
theorem hbF_n : hbF.ntmps = 96 := by kernel_rfl
theorem hbC_plans : plansIn hbC = true := by kernel_rfl
theorem hb_pre (g : SetD) (len : Nat) (k s : Nat → Int) (b : Nat → ByteArray) (n : Nat → Int) (j : Nat → Value) : (evalS E4 S4 1000 (preC 4 hbC) (mkA 96 (argL [scrS g (slO len)]) j) (mkH [opsO len k s b n])).mapO (viewD 96 (vselD ⟨[1, 6, 5], [.id 0, .of 1, .of 6, .of 5]⟩ ⟨[2, 3], []⟩ ⟨[], []⟩)) =
    .node (Nat.ble (Nat.div 0 4 + len) len) (.node (Nat.ble len 70368744177664) (hbT g (slO len) [opsO len k s b n] 1 (opsL len k s b n)) .fail) .fail := by kernel_rfl
theorem hb_r6 (g : SetD) (len : Nat) (k s : Nat → Int) (b : Nat → ByteArray) (n : Nat → Int) (m : Nat) (f : Nat → Int) (j : Nat → Value) :
    (evalS E4 S4 1000 (seqL (seqL (postC 4 hbC))) (mkA 96 ([1, 6, 5].zip [.ptr 1 (.c 0), .sl 2 (.c 0) ⟨false, m⟩ 1, .ptr 3 (.c 0)]) j) (mkH [opsO len k s b n, scO g (slO len), bO m f, roomO g])).mapO (viewD 96 (vselD ⟨[1, 6, 46, 47, 48], [.id 0, .of 1, .of 6, .of 46]⟩ ⟨[2, 3], []⟩ ⟨[], []⟩)) =
    .leaf ⟨.normal, [.ptr 1 (.c 0), .sl 2 (.c 0) ⟨false, m⟩ 1, .sl 3 (.c 0) ⟨true, 6⟩ 1, .int .i64 true 6, .int .i64 true 0], [opsO len k s b n, scO g (slO len), bO m f, l6O g len]⟩ := by kernel_rfl
theorem hb_it0 (g : SetD) (len : Nat) (k s : Nat → Int) (b : Nat → ByteArray) (n : Nat → Int) (m : Nat) (f : Nat → Int) (j : Nat → Value) :
    (evalS E4 S4 1000 (loopB (blockB (seqR (seqL (postC 4 hbC))))) (mkA 96 ([1, 6, 46, 47, 48].zip [.ptr 1 (.c 0), .sl 2 (.c 0) ⟨false, m⟩ 1, .sl 3 (.c 0) ⟨true, 6⟩ 1, .int .i64 true 6, .int .i64 true 0]) j) (mkH [opsO len k s b n, scO g (slO len), bO m f, l6O g len])).mapO (viewD 96 (vselD ⟨[1, 6, 46, 47, 48], [.id 0, .of 1, .of 6, .of 46]⟩ ⟨[2, 3], []⟩ ⟨[1, 6], [.id 0, .of 1, .of 6]⟩)) =
    putT m f (fun m' f' => .leaf ⟨.normal, [.ptr 1 (.c 0), .sl 2 (.c 0) ⟨false, m'⟩ 1, .sl 3 (.c 0) ⟨true, 6⟩ 1, .int .i64 true 6, .int .i64 true 1], [opsO len k s b n, scO g (slO len), bO m' f', l6O g len]⟩) (be4 (IntKind.u64.wrap g.most)) := by kernel_rfl
theorem hb_it1 (g : SetD) (len : Nat) (k s : Nat → Int) (b : Nat → ByteArray) (n : Nat → Int) (m : Nat) (f : Nat → Int) (j : Nat → Value) :
    (evalS E4 S4 1000 (loopB (blockB (seqR (seqL (postC 4 hbC))))) (mkA 96 ([1, 6, 46, 47, 48].zip [.ptr 1 (.c 0), .sl 2 (.c 0) ⟨false, m⟩ 1, .sl 3 (.c 0) ⟨true, 6⟩ 1, .int .i64 true 6, .int .i64 true 1]) j) (mkH [opsO len k s b n, scO g (slO len), bO m f, l6O g len])).mapO (viewD 96 (vselD ⟨[1, 6, 46, 47, 48], [.id 0, .of 1, .of 6, .of 46]⟩ ⟨[2, 3], []⟩ ⟨[1, 6], [.id 0, .of 1, .of 6]⟩)) =
    putT m f (fun m' f' => .leaf ⟨.normal, [.ptr 1 (.c 0), .sl 2 (.c 0) ⟨false, m'⟩ 1, .sl 3 (.c 0) ⟨true, 6⟩ 1, .int .i64 true 6, .int .i64 true 2], [opsO len k s b n, scO g (slO len), bO m' f', l6O g len]⟩) (be4 (IntKind.u64.wrap g.rounds)) := by kernel_rfl
theorem hb_it2 (g : SetD) (len : Nat) (k s : Nat → Int) (b : Nat → ByteArray) (n : Nat → Int) (m : Nat) (f : Nat → Int) (j : Nat → Value) :
    (evalS E4 S4 1000 (loopB (blockB (seqR (seqL (postC 4 hbC))))) (mkA 96 ([1, 6, 46, 47, 48].zip [.ptr 1 (.c 0), .sl 2 (.c 0) ⟨false, m⟩ 1, .sl 3 (.c 0) ⟨true, 6⟩ 1, .int .i64 true 6, .int .i64 true 2]) j) (mkH [opsO len k s b n, scO g (slO len), bO m f, l6O g len])).mapO (viewD 96 (vselD ⟨[1, 6, 46, 47, 48], [.id 0, .of 1, .of 6, .of 46]⟩ ⟨[2, 3], []⟩ ⟨[1, 6], [.id 0, .of 1, .of 6]⟩)) =
    putT m f (fun m' f' => .leaf ⟨.normal, [.ptr 1 (.c 0), .sl 2 (.c 0) ⟨false, m'⟩ 1, .sl 3 (.c 0) ⟨true, 6⟩ 1, .int .i64 true 6, .int .i64 true 3], [opsO len k s b n, scO g (slO len), bO m' f', l6O g len]⟩) (be4 (IntKind.u64.wrap g.sess)) := by kernel_rfl
theorem hb_it3 (g : SetD) (len : Nat) (k s : Nat → Int) (b : Nat → ByteArray) (n : Nat → Int) (m : Nat) (f : Nat → Int) (j : Nat → Value) :
    (evalS E4 S4 1000 (loopB (blockB (seqR (seqL (postC 4 hbC))))) (mkA 96 ([1, 6, 46, 47, 48].zip [.ptr 1 (.c 0), .sl 2 (.c 0) ⟨false, m⟩ 1, .sl 3 (.c 0) ⟨true, 6⟩ 1, .int .i64 true 6, .int .i64 true 3]) j) (mkH [opsO len k s b n, scO g (slO len), bO m f, l6O g len])).mapO (viewD 96 (vselD ⟨[1, 6, 46, 47, 48], [.id 0, .of 1, .of 6, .of 46]⟩ ⟨[2, 3], []⟩ ⟨[1, 6], [.id 0, .of 1, .of 6]⟩)) =
    putT m f (fun m' f' => .leaf ⟨.normal, [.ptr 1 (.c 0), .sl 2 (.c 0) ⟨false, m'⟩ 1, .sl 3 (.c 0) ⟨true, 6⟩ 1, .int .i64 true 6, .int .i64 true 4], [opsO len k s b n, scO g (slO len), bO m' f', l6O g len]⟩) (be4 (IntKind.u64.wrap g.staged)) := by kernel_rfl
theorem hb_it4 (g : SetD) (len : Nat) (k s : Nat → Int) (b : Nat → ByteArray) (n : Nat → Int) (m : Nat) (f : Nat → Int) (j : Nat → Value) :
    (evalS E4 S4 1000 (loopB (blockB (seqR (seqL (postC 4 hbC))))) (mkA 96 ([1, 6, 46, 47, 48].zip [.ptr 1 (.c 0), .sl 2 (.c 0) ⟨false, m⟩ 1, .sl 3 (.c 0) ⟨true, 6⟩ 1, .int .i64 true 6, .int .i64 true 4]) j) (mkH [opsO len k s b n, scO g (slO len), bO m f, l6O g len])).mapO (viewD 96 (vselD ⟨[1, 6, 46, 47, 48], [.id 0, .of 1, .of 6, .of 46]⟩ ⟨[2, 3], []⟩ ⟨[1, 6], [.id 0, .of 1, .of 6]⟩)) =
    putT m f (fun m' f' => .leaf ⟨.normal, [.ptr 1 (.c 0), .sl 2 (.c 0) ⟨false, m'⟩ 1, .sl 3 (.c 0) ⟨true, 6⟩ 1, .int .i64 true 6, .int .i64 true 5], [opsO len k s b n, scO g (slO len), bO m' f', l6O g len]⟩) (be4 (IntKind.u64.wrap g.queue)) := by kernel_rfl
theorem hb_it5 (g : SetD) (len : Nat) (k s : Nat → Int) (b : Nat → ByteArray) (n : Nat → Int) (m : Nat) (f : Nat → Int) (j : Nat → Value) :
    (evalS E4 S4 1000 (loopB (blockB (seqR (seqL (postC 4 hbC))))) (mkA 96 ([1, 6, 46, 47, 48].zip [.ptr 1 (.c 0), .sl 2 (.c 0) ⟨false, m⟩ 1, .sl 3 (.c 0) ⟨true, 6⟩ 1, .int .i64 true 6, .int .i64 true 5]) j) (mkH [opsO len k s b n, scO g (slO len), bO m f, l6O g len])).mapO (viewD 96 (vselD ⟨[1, 6, 46, 47, 48], [.id 0, .of 1, .of 6, .of 46]⟩ ⟨[2, 3], []⟩ ⟨[1, 6], [.id 0, .of 1, .of 6]⟩)) =
    putT m f (fun m' f' => .leaf ⟨.normal, [.ptr 1 (.c 0), .sl 2 (.c 0) ⟨false, m'⟩ 1, .sl 3 (.c 0) ⟨true, 6⟩ 1, .int .i64 true 6, .int .i64 true 6], [opsO len k s b n, scO g (slO len), bO m' f', l6O g len]⟩) (be4 (IntKind.u64.wrap len)) := by kernel_rfl
theorem hb_it6 (g : SetD) (len : Nat) (k s : Nat → Int) (b : Nat → ByteArray) (n : Nat → Int) (m : Nat) (f : Nat → Int) (j : Nat → Value) :
    (evalS E4 S4 1000 (loopB (blockB (seqR (seqL (postC 4 hbC))))) (mkA 96 ([1, 6, 46, 47, 48].zip [.ptr 1 (.c 0), .sl 2 (.c 0) ⟨false, m⟩ 1, .sl 3 (.c 0) ⟨true, 6⟩ 1, .int .i64 true 6, .int .i64 true 6]) j) (mkH [opsO len k s b n, scO g (slO len), bO m f, l6O g len])).mapO (viewD 96 (vselD ⟨[1, 6, 46, 47, 48], [.id 0, .of 1, .of 6, .of 46]⟩ ⟨[2, 3], []⟩ ⟨[1, 6], [.id 0, .of 1, .of 6]⟩)) =
    .leaf ⟨.exit 0, [.ptr 1 (.c 0), .sl 2 (.c 0) ⟨false, m⟩ 1], [opsO len k s b n, scO g (slO len), bO m f]⟩ := by kernel_rfl
theorem hb_r11 (g : SetD) (len : Nat) (k s : Nat → Int) (b : Nat → ByteArray) (n : Nat → Int) (m : Nat) (f : Nat → Int) (j : Nat → Value) :
    (evalS E4 S4 1000 (seqL (seqL (seqR (postC 4 hbC)))) (mkA 96 ([1, 6].zip [.ptr 1 (.c 0), .sl 2 (.c 0) ⟨false, m⟩ 1]) j) (mkH [opsO len k s b n, scO g (slO len), bO m f])).mapO (viewD 96 (vselD ⟨[6, 58, 59, 60], [.id 0, .of 6]⟩ ⟨[2, 3], []⟩ ⟨[], []⟩)) =
    .leaf ⟨.normal, [.sl 1 (.c 0) ⟨false, m⟩ 1, slO len, .int .i64 false len, .int .i64 true 0], [opsO len k s b n, bO m f]⟩ := by kernel_rfl
noncomputable abbrev hbN (len : Nat) (k s : Nat → Int) (b : Nat → ByteArray) (n : Nat → Int) (i : Nat) (m' : Nat) (f' : Nat → Int) : Tree View := .leaf ⟨.normal, [.sl 1 (.c 0) ⟨false, m'⟩ 1, slO len, .int .i64 false len, .int .i64 false (IntKind.i64.wrap ((i : Int) + 1))], [opsO len k s b n, bO m' f']⟩
theorem hb_body (len : Nat) (k s : Nat → Int) (b : Nat → ByteArray) (n : Nat → Int) (m : Nat) (f : Nat → Int) (i : Nat) (j : Nat → Value) :
    (evalS E4 S4 1000 (loopB (blockB (seqR (seqL (seqR (postC 4 hbC)))))) (mkA 96 ([6, 58, 59, 60].zip [.sl 1 (.c 0) ⟨false, m⟩ 1, slO len, .int .i64 false len, .int .i64 false i]) j) (mkH [opsO len k s b n, bO m f])).mapO (viewD 96 (vselD ⟨[6, 58, 59, 60], [.id 0, .of 6]⟩ ⟨[2, 3], []⟩ ⟨[6], [.id 0, .of 6]⟩)) =
    .node (decide ((i : Int) < (len : Int))) (.node (decide ((0 : Int) ≤ (i : Int)) && (i : Int).toNat.blt len) (.node (i.blt len)
      (.node (Nat.ble (m + 2) 70368744177664 && capRoom (m + 2) 1) (.node (Nat.ble (Nat.div 0 1 + m) m)
        (.node (k i == (3 : Int))
          (putT (m + 2) (ap2 m f (IntKind.u8.wrap (k i)) (IntKind.u8.wrap (s i))) (fun m' f' => .node (Nat.beq (b i).size 0) (hbN len k s b n i m' f') (.node (Nat.ble (m' + (b i).size) 70368744177664 && capRoom (m' + (b i).size) 1) (.node (Nat.ble (Nat.div 0 1 + m') m') (hbN len k s b n i (m' + (b i).size) (apS m' f' (b i))) .fail) .fail)) (be4 (IntKind.u64.wrap ((b i).size : Int))))
          (.node (k i == (4 : Int))
            (putT (m + 2) (ap2 m f (IntKind.u8.wrap (k i)) (IntKind.u8.wrap (s i))) (hbN len k s b n i) (be4 (IntKind.u64.wrap (n i))))
            (hbN len k s b n i (m + 2) (ap2 m f (IntKind.u8.wrap (k i)) (IntKind.u8.wrap (s i)))))) .fail) .fail) .fail) .fail)
      (.leaf ⟨.exit 2, [.sl 1 (.c 0) ⟨false, m⟩ 1], [opsO len k s b n, bO m f]⟩) := by kernel_rfl
theorem hb_fin (len : Nat) (k s : Nat → Int) (b : Nat → ByteArray) (n : Nat → Int) (m : Nat) (f : Nat → Int) (j : Nat → Value) :
    (evalS E4 S4 1000 (seqR (seqR (postC 4 hbC))) (mkA 96 ([6].zip [.sl 1 (.c 0) ⟨false, m⟩ 1]) j) (mkH [opsO len k s b n, bO m f])).mapO (viewD 96 (vselD ⟨[], []⟩ ⟨[2, 3], []⟩ ⟨[], []⟩)) =
    .node (Nat.ble (Nat.div 0 1 + m) m) (.leaf ⟨.ret, [.str false (strOfF m f), .int .i64 true 0], []⟩) .fail := by kernel_rfl
end Go.Ev
end
section
set_option maxRecDepth 100000
namespace Go.Ev
open Go.Proofs Go.RowKit
noncomputable section
/-- The bytes of an op; of a script. -/
def opB (o : OpD) : List UInt8 := [u8 (IntKind.u8.wrap o.k), u8 (IntKind.u8.wrap o.s)] ++ (if o.k = 3 then (be4 (IntKind.u64.wrap (o.b.size : Int))).map u8 ++ o.b.data.toList else if o.k = 4 then (be4 (IntKind.u64.wrap o.n)).map u8 else [])
def l6 (g : SetD) (n : Int) : List Int := [g.most, g.rounds, g.sess, g.staged, g.queue, n]
def enc4 (l : List Int) : List UInt8 := l.flatMap fun v => (be4 (IntKind.u64.wrap v)).map u8
def hdB (g : SetD) : List UInt8 := (hd27 g (fl g.gxf) (fl g.gyf) (fl g.dtf)).map u8
def encB (g : SetD) (ops : List OpD) : List UInt8 := hdB g ++ enc4 (l6 g ops.length) ++ ops.flatMap opB
def hbV (g : SetD) (ops : List OpD) : Value := if checkR csV opV g ops = 0 then .tuple #[.string ⟨(encB g ops).toArray⟩, .int .i64 0] else .tuple #[.string ⟨#[]⟩, .int .i64 (checkR csV opV g ops)]
end
theorem strOfF_bL (m : Nat) (f : Nat → Int) : strOfF m f = ⟨(bL m f).toArray⟩ := rfl
theorem lensR_le : ∀ (l : List OpD) (acc : Nat), acc ≤ 65536 → lensR acc l = false → acc + sumN l ≤ 65536
  | [], acc, h, _ => by simpa [sumN] using h
  | o :: l, acc, h, hl => by
    rw [lensR, Go.IntWalk.i64_in (65536 - acc) ⟨by omega, by omega⟩] at hl
    by_cases hb : (65536 : Int) - acc < (o.b.size : Int)
    · rw [if_pos hb] at hl; cases hl
    · rw [if_neg hb, Go.IntWalk.i64_in _ ⟨by omega, by omega⟩, show ((acc : Int) + (o.b.size : Int)) = ((acc + o.b.size : Nat) : Int) by omega] at hl
      have := lensR_le l (acc + o.b.size) (by omega) hl
      rw [sumN]
      omega
theorem check_ok {g : SetD} {l : List OpD} (h : checkR csV opV g l = 0) : l.length ≤ 400 ∧ sumN l ≤ 65536 := by
  unfold checkR at h
  by_cases h0 : csV g = 0
  · rw [if_pos h0] at h
    by_cases h1 : 400 < l.length
    · rw [if_pos h1] at h; cases h
    · rw [if_neg h1] at h
      cases h2 : lensR 0 l with
      | true => rw [h2, if_pos rfl] at h; cases h
      | false =>
        have := lensR_le l 0 (by omega) h2
        omega
  · rw [if_neg h0] at h; exact absurd h h0
theorem hb_end {ρ0 : Emb} {w : World} (hro : ∀ i g, ρ0 i = .img g → g.rw = false) (v : ByteArray) (e : Int) (l l2 : Bool) (u : Value) (b1 : Act) (w1 : World) (st : StL ρ0 w 96 [(2, .str l v), (3, .int .i64 l2 e)] [] b1 w1) (hu : u = .tuple #[.string v, .int .i64 e]) :
    Leaves E4.P hbF b1.tmps (fun e w' => e = .returned u ∧ Below w.heap.size w w') b1.defers .returning w1 := by
  subst hu
  refine StL.finish (vs := [.str l v, .int .i64 l2 e]) (fun j => by kernel_rfl) st fun ρ v' rv _ fr => ?_
  have := plainR_eq (v := .tuple #[.string v, .int .i64 e]) rfl rv
  exact ⟨by rw [this], below_of_ro hro fr⟩
theorem hb_loop2 (g : SetD) (len : Nat) (k s : Nat → Int) (b : Nat → ByteArray) (n : Nat → Int) {ρ0 : Emb} {w : World} (hlen : len ≤ 70368744177664) (hro : ∀ i g, ρ0 i = .img g → g.rw = false) (hck : checkR csV opV g (opsL len k s b n) = 0) (m0 : Nat) (f0 : Nat → Int) (hm0 : m0 = 51)
    (hf0 : bL m0 f0 = hdB g ++ enc4 (l6 g len)) (b1 : Act) (w1 : World) (st : StL ρ0 w 96 ([1, 6].zip [.ptr 1 (.c 0), .sl 2 (.c 0) ⟨false, m0⟩ 1]) [opsO len k s b n, scO g (slO len), bO m0 f0] b1 w1) :
    Code.wp E4.P (seqR (postC 4 hbC)) (bodyPostD E4.P hbF (fun e w' => e = .returned (hbV g (opsL len k s b n)) ∧ Below w.heap.size w w')) b1 w1 := by
  obtain ⟨hl4, hsum⟩ := check_ok hck
  rw [opsL_length] at hl4
  refine wp_seqP (by kernel_rfl) ?_
  refine wp_seqP (by kernel_rfl) ?_
  refine StL.pieceD sound4 thom4 1000 (by decide) (by kernel_rfl) (hb_r11 g len k s b n m0 f0) st ?_
  refine Holds.leaf ⟨rfl, fun b2 w2 st => ?_⟩
  show Code.wp E4.P (seqR (seqL (seqR (postC 4 hbC)))) _ b2 w2
  refine wp_blockP (by kernel_rfl) ?_
  refine wp_loopP (by kernel_rfl) (fun M x w' => ∃ (i m : Nat) (f : Nat → Int), M = len - i ∧ i ≤ len ∧ m + 6 * (len - i) + sumN ((opsL len k s b n).drop i) ≤ 100000 ∧ encB g (opsL len k s b n) = bL m f ++ ((opsL len k s b n).drop i).flatMap opB ∧
    StL ρ0 w 96 ([6, 58, 59, 60].zip [.sl 1 (.c 0) ⟨false, m⟩ 1, slO len, .int .i64 false len, .int .i64 false i]) [opsO len k s b n, bO m f] x w') ?_ ⟨0, m0, f0, rfl, Nat.zero_le _, by rw [List.drop_zero]; omega, by rw [hf0, List.drop_zero, encB, opsL_length], st.conv rfl rfl⟩
  rintro _ b3 w3 ⟨i, m, f, rfl, hi, hm, hacc, st⟩
  refine StL.pieceD sound4 thom4 1000 (by decide) (by kernel_rfl) (hb_body len k s b n m f i) st ?_
  refine Holds.node (fun h2 => ?_) fun h2 => ?_
  · have hlt : i < len := by simpa using h2
    have hblt : i.blt len = true := blt_true hlt
    rw [opsL_drop hlt, sumN] at hm
    rw [opsL_drop hlt, List.flatMap_cons] at hacc
    simp only at hm
    have next : ∀ (m' : Nat) (f' : Nat → Int), m' ≤ m + 6 + (b i).size → bL m' f' = bL m f ++ opB ⟨k i, s i, b i, n i⟩ → ∀ b4 w4, StL ρ0 w 96 ([6, 58, 59, 60].zip [.sl 1 (.c 0) ⟨false, m'⟩ 1, slO len, .int .i64 false len, .int .i64 false (IntKind.i64.wrap ((i : Int) + 1))]) [opsO len k s b n, bO m' f'] b4 w4 →
        ∃ M, M < len - i ∧ ∃ (i' m' : Nat) (f : Nat → Int), M = len - i' ∧ i' ≤ len ∧ m' + 6 * (len - i') + sumN ((opsL len k s b n).drop i') ≤ 100000 ∧ encB g (opsL len k s b n) = bL m' f ++ ((opsL len k s b n).drop i').flatMap opB ∧
          StL ρ0 w 96 ([6, 58, 59, 60].zip [.sl 1 (.c 0) ⟨false, m'⟩ 1, slO len, .int .i64 false len, .int .i64 false i']) [opsO len k s b n, bO m' f] b4 w4 := by
      intro m' f' hm' hf' b4 w4 st
      refine ⟨len - (i + 1), by omega, i + 1, m', f', rfl, hlt, by omega, ?_, st.conv ?_ rfl⟩
      · rw [hacc, hf', List.append_assoc]
      · simp only [dens, SV.den, wrap_succ hlt hlen]
    refine Holds.yesB (by simp [hblt]) (Holds.yesB hblt (Holds.yesB (capB (by omega)) (Holds.yesB (bleB m) (Holds.node (fun h3 => ?_) fun h3 => ?_))))
    · have h3 : k i = 3 := by simpa using h3
      refine Holds.put _ _ _ (by simp; omega) ?_
      have e4 : apN (m + 2) (be4 (IntKind.u64.wrap ((b i).size : Int))) = m + 6 := by rw [apN_eq]; rfl
      refine Holds.node (fun h5 => ?_) fun h5 => ?_
      · have h5 : (b i).size = 0 := Nat.eq_of_beq_eq_true h5
        refine .leaf ⟨rfl, fun b4 w4 st => next _ _ (by omega) ?_ b4 w4 st⟩
        rw [bL_apF, bL_ap2, List.append_assoc]
        have hd : (b i).data.toList = [] := List.length_eq_zero_iff.1 (by rw [Array.length_toList]; exact h5)
        simp [opB, h3, hd]
      · refine Holds.yesB (capB (by omega)) (Holds.yesB (bleB _) ?_)
        refine .leaf ⟨rfl, fun b4 w4 st => next _ _ (by omega) ?_ b4 w4 st⟩
        rw [bL_apS, bL_apF, bL_ap2]
        simp [opB, h3]
    · have h3 : k i ≠ 3 := by simpa using h3
      refine Holds.node (fun h4 => ?_) fun h4 => ?_
      · have h4 : k i = 4 := by simpa using h4
        refine Holds.put _ _ _ (by simp; omega) ?_
        have e4 : apN (m + 2) (be4 (IntKind.u64.wrap (n i))) = m + 6 := by rw [apN_eq]; rfl
        refine .leaf ⟨rfl, fun b4 w4 st => next _ _ (by omega) ?_ b4 w4 st⟩
        rw [bL_apF, bL_ap2]
        simp [opB, h4]
      · have h4 : k i ≠ 4 := by simpa using h4
        refine .leaf ⟨rfl, fun b4 w4 st => next _ _ (by omega) ?_ b4 w4 st⟩
        rw [bL_ap2]
        simp [opB, h3, h4]
  · have hge : i = len := by simp at h2; omega
    refine .leaf ⟨rfl, fun b4 w4 st => ?_⟩
    show Code.wp E4.P (seqR (seqR (postC 4 hbC))) _ b4 w4
    refine StL.pieceD sound4 thom4 1000 (by decide) (by kernel_rfl) (hb_fin len k s b n m f) st ?_
    refine Holds.yesB (bleB m) (.leaf ⟨rfl, fun b9 w9 st => hb_end hro _ _ _ _ _ b9 w9 st ?_⟩)
    rw [hge, List.drop_eq_nil_of_le (by rw [opsL_length]; exact Nat.le_refl _), List.flatMap_nil, List.append_nil] at hacc
    rw [hbV, if_pos hck, hacc, strOfF_bL]
end Go.Ev
end
section
set_option maxRecDepth 100000
namespace Go.Ev
open Go.Proofs Go.RowKit
theorem enc4_take (l : List Int) (i : Nat) (v : Int) (h : l[i]? = some v) : enc4 (l.take (i + 1)) = enc4 (l.take i) ++ (be4 (IntKind.u64.wrap v)).map u8 := by
  unfold enc4
  rw [List.take_add_one, h, List.flatMap_append]
  congr 1
theorem hb_loop1 (g : SetD) (len : Nat) (k s : Nat → Int) (b : Nat → ByteArray) (n : Nat → Int) {ρ0 : Emb} {w : World} (hlen : len ≤ 70368744177664) (hro : ∀ i g, ρ0 i = .img g → g.rw = false) (hck : checkR csV opV g (opsL len k s b n) = 0) (f0 : Nat → Int)
    (hf0 : bL 27 f0 = hdB g) (b1 : Act) (w1 : World) (st : StL ρ0 w 96 ([1, 6, 5].zip [.ptr 1 (.c 0), .sl 2 (.c 0) ⟨false, 27⟩ 1, .ptr 3 (.c 0)]) [opsO len k s b n, scO g (slO len), bO 27 f0, roomO g] b1 w1) :
    (postC 4 hbC).wp E4.P (bodyPostD E4.P hbF (fun e w' => e = .returned (hbV g (opsL len k s b n)) ∧ Below w.heap.size w w')) b1 w1 := by
  refine wp_seqP (by kernel_rfl) ?_
  refine wp_seqP (by kernel_rfl) ?_
  refine StL.pieceD sound4 thom4 1000 (by decide) (by kernel_rfl) (hb_r6 g len k s b n 27 f0) st ?_
  refine Holds.leaf ⟨rfl, fun b2 w2 st => ?_⟩
  show Code.wp E4.P (seqR (seqL (postC 4 hbC))) _ b2 w2
  refine wp_blockP (by kernel_rfl) ?_
  refine wp_loopP (by kernel_rfl) (fun M x w' => ∃ (i m : Nat) (f : Nat → Int), M = 6 - i ∧ i ≤ 6 ∧ m = 27 + 4 * i ∧ bL m f = hdB g ++ enc4 ((l6 g len).take i) ∧
    StL ρ0 w 96 ([1, 6, 46, 47, 48].zip [.ptr 1 (.c 0), .sl 2 (.c 0) ⟨false, m⟩ 1, .sl 3 (.c 0) ⟨true, 6⟩ 1, .int .i64 true 6, .int .i64 false i]) [opsO len k s b n, scO g (slO len), bO m f, l6O g len] x w') ?_ ⟨0, 27, f0, rfl, by omega, rfl, by rw [hf0]; simp [enc4], st.conv rfl rfl⟩
  rintro _ b3 w3 ⟨i, m, f, rfl, hi, hm, hf, st⟩
  have hcase : i = 0 ∨ i = 1 ∨ i = 2 ∨ i = 3 ∨ i = 4 ∨ i = 5 ∨ i = 6 := by omega
  rcases hcase with rfl | rfl | rfl | rfl | rfl | rfl | rfl
  · refine StL.pieceD sound4 thom4 1000 (by decide) (by kernel_rfl) (hb_it0 g len k s b n m f) (st.conv rfl rfl) ?_
    refine Holds.put _ m f (by simp only [List.length_cons, List.length_nil]; omega) ?_
    refine .leaf ⟨rfl, fun b4 w4 st => ⟨6 - 1, by omega, 1, _, _, rfl, by omega, ?_, ?_, st.conv rfl rfl⟩⟩
    · rw [apN_eq, hm]; rfl
    · rw [bL_apF, hf, List.append_assoc, enc4_take _ 0 _ rfl]
  · refine StL.pieceD sound4 thom4 1000 (by decide) (by kernel_rfl) (hb_it1 g len k s b n m f) (st.conv rfl rfl) ?_
    refine Holds.put _ m f (by simp only [List.length_cons, List.length_nil]; omega) ?_
    refine .leaf ⟨rfl, fun b4 w4 st => ⟨6 - 2, by omega, 2, _, _, rfl, by omega, ?_, ?_, st.conv rfl rfl⟩⟩
    · rw [apN_eq, hm]; rfl
    · rw [bL_apF, hf, List.append_assoc, enc4_take _ 1 _ rfl]
  · refine StL.pieceD sound4 thom4 1000 (by decide) (by kernel_rfl) (hb_it2 g len k s b n m f) (st.conv rfl rfl) ?_
    refine Holds.put _ m f (by simp only [List.length_cons, List.length_nil]; omega) ?_
    refine .leaf ⟨rfl, fun b4 w4 st => ⟨6 - 3, by omega, 3, _, _, rfl, by omega, ?_, ?_, st.conv rfl rfl⟩⟩
    · rw [apN_eq, hm]; rfl
    · rw [bL_apF, hf, List.append_assoc, enc4_take _ 2 _ rfl]
  · refine StL.pieceD sound4 thom4 1000 (by decide) (by kernel_rfl) (hb_it3 g len k s b n m f) (st.conv rfl rfl) ?_
    refine Holds.put _ m f (by simp only [List.length_cons, List.length_nil]; omega) ?_
    refine .leaf ⟨rfl, fun b4 w4 st => ⟨6 - 4, by omega, 4, _, _, rfl, by omega, ?_, ?_, st.conv rfl rfl⟩⟩
    · rw [apN_eq, hm]; rfl
    · rw [bL_apF, hf, List.append_assoc, enc4_take _ 3 _ rfl]
  · refine StL.pieceD sound4 thom4 1000 (by decide) (by kernel_rfl) (hb_it4 g len k s b n m f) (st.conv rfl rfl) ?_
    refine Holds.put _ m f (by simp only [List.length_cons, List.length_nil]; omega) ?_
    refine .leaf ⟨rfl, fun b4 w4 st => ⟨6 - 5, by omega, 5, _, _, rfl, by omega, ?_, ?_, st.conv rfl rfl⟩⟩
    · rw [apN_eq, hm]; rfl
    · rw [bL_apF, hf, List.append_assoc, enc4_take _ 4 _ rfl]
  · refine StL.pieceD sound4 thom4 1000 (by decide) (by kernel_rfl) (hb_it5 g len k s b n m f) (st.conv rfl rfl) ?_
    refine Holds.put _ m f (by simp only [List.length_cons, List.length_nil]; omega) ?_
    refine .leaf ⟨rfl, fun b4 w4 st => ⟨6 - 6, by omega, 6, _, _, rfl, by omega, ?_, ?_, st.conv rfl rfl⟩⟩
    · rw [apN_eq, hm]; rfl
    · rw [bL_apF, hf, List.append_assoc, enc4_take _ 5 _ rfl]
  · refine StL.pieceD sound4 thom4 1000 (by decide) (by kernel_rfl) (hb_it6 g len k s b n m f) (st.conv rfl rfl) ?_
    refine Holds.leaf ⟨rfl, fun b4 w4 st => ?_⟩
    exact hb_loop2 g len k s b n hlen hro hck m f (by omega) hf b4 w4 st
theorem hdF_bL (l : List Int) (n : Nat) (h : l.length = n) : bL n (hdF l) = l.map u8 := by
  subst h
  unfold bL hdF
  apply List.ext_getElem?
  intro i
  rw [List.getElem?_map, List.getElem?_map]
  by_cases hi : i < l.length
  · rw [List.getElem?_range hi, List.getElem?_eq_getElem hi]
    simp [List.getD_eq_getElem?_getD, List.getElem?_eq_getElem hi]
  · rw [List.getElem?_eq_none (by simpa using hi), List.getElem?_eq_none (by omega)]
    rfl
theorem hb_arr (g : SetD) (len : Nat) (k s : Nat → Int) (b : Nat → ByteArray) (n : Nat → Int) {ρ0 : Emb} {w : World} {args' : Array Value} (hlen : len ≤ 70368744177664) (hro : ∀ i g, ρ0 i = .img g → g.rw = false)
    (wr : WRel ρ0 (mkH [opsO len k s b n]).den w) (ra : VsRel ρ0 (dens [scrS g (slO len)]) args'.toList) :
    Calls E4.P 7 args' w fun e w' => e = .returned (hbV g (opsL len k s b n)) ∧ Below w.heap.size w w' := by
  refine calls_StL hbF_some hbC_some hbF_n (by decide) (by simp) wr ra fun bb st => ?_
  refine StL.preD sound4 thom4 1000 3 (by decide) hbC_plans (by kernel_rfl) (hb_pre g len k s b n) st ?_
  refine Holds.yesB (bleQ len) (Holds.yesB (Nat.ble_eq_true_of_le hlen) (Holds.node (fun h0 => ?_) fun h0 => ?_))
  · have h0 : checkR csV opV g (opsL len k s b n) ≠ 0 := by simpa using h0
    exact .leaf ⟨rfl, fun b1 w1 st => hb_end hro _ _ _ _ _ b1 w1 st (by rw [hbV, if_neg h0])⟩
  have hck : checkR csV opV g (opsL len k s b n) = 0 := by simpa using h0
  refine Holds.node (fun h1 => Holds.node (fun h2 => Holds.node (fun h3 => ?_) fun h3 => ?_) fun h2 => Holds.node (fun h3 => ?_) fun h3 => ?_) fun h1 => Holds.node (fun h2 => Holds.node (fun h3 => ?_) fun h3 => ?_) fun h2 => Holds.node (fun h3 => ?_) fun h3 => ?_
  · refine .leaf ⟨rfl, fun b1 w1 st => ?_⟩
    exact hb_loop1 g len k s b n hlen hro hck (hdF (hd27 g 1 1 1)) (by rw [hdF_bL _ 27 rfl, hdB, h1, h2, h3]; rfl) b1 w1 (st.conv rfl (by kernel_rfl))
  · refine .leaf ⟨rfl, fun b1 w1 st => ?_⟩
    exact hb_loop1 g len k s b n hlen hro hck (hdF (hd27 g 1 1 0)) (by rw [hdF_bL _ 27 rfl, hdB, h1, h2, h3]; rfl) b1 w1 (st.conv rfl (by kernel_rfl))
  · refine .leaf ⟨rfl, fun b1 w1 st => ?_⟩
    exact hb_loop1 g len k s b n hlen hro hck (hdF (hd27 g 1 0 1)) (by rw [hdF_bL _ 27 rfl, hdB, h1, h2, h3]; rfl) b1 w1 (st.conv rfl (by kernel_rfl))
  · refine .leaf ⟨rfl, fun b1 w1 st => ?_⟩
    exact hb_loop1 g len k s b n hlen hro hck (hdF (hd27 g 1 0 0)) (by rw [hdF_bL _ 27 rfl, hdB, h1, h2, h3]; rfl) b1 w1 (st.conv rfl (by kernel_rfl))
  · refine .leaf ⟨rfl, fun b1 w1 st => ?_⟩
    exact hb_loop1 g len k s b n hlen hro hck (hdF (hd27 g 0 1 1)) (by rw [hdF_bL _ 27 rfl, hdB, h1, h2, h3]; rfl) b1 w1 (st.conv rfl (by kernel_rfl))
  · refine .leaf ⟨rfl, fun b1 w1 st => ?_⟩
    exact hb_loop1 g len k s b n hlen hro hck (hdF (hd27 g 0 1 0)) (by rw [hdF_bL _ 27 rfl, hdB, h1, h2, h3]; rfl) b1 w1 (st.conv rfl (by kernel_rfl))
  · refine .leaf ⟨rfl, fun b1 w1 st => ?_⟩
    exact hb_loop1 g len k s b n hlen hro hck (hdF (hd27 g 0 0 1)) (by rw [hdF_bL _ 27 rfl, hdB, h1, h2, h3]; rfl) b1 w1 (st.conv rfl (by kernel_rfl))
  · refine .leaf ⟨rfl, fun b1 w1 st => ?_⟩
    exact hb_loop1 g len k s b n hlen hro hck (hdF (hd27 g 0 0 0)) (by rw [hdF_bL _ 27 rfl, hdB, h1, h2, h3]; rfl) b1 w1 (st.conv rfl (by kernel_rfl))
end Go.Ev
end
section
set_option maxRecDepth 100000
namespace Go.Ev
open Go.Proofs Go.RowKit
/-! history.Bytes: no ops -/
noncomputable abbrev l6N (g : SetD) : SObj := .cells [.int .i64 false g.most, .int .i64 false g.rounds, .int .i64 false g.sess, .int .i64 false g.staged, .int .i64 false g.queue, .int .i64 true 0] true
theorem hn_pre (g : SetD) (j : Nat → Value) : (evalS E4 S4 1000 (preC 4 hbC) (mkA 96 (argL [scrS g nilO]) j) (mkH [])).mapO (viewD 96 (vselD ⟨[1, 6, 5], [.of 1, .of 6, .of 5]⟩ ⟨[2, 3], []⟩ ⟨[], []⟩)) = hbT g nilO [] 0 [] := by kernel_rfl
theorem hn_r6 (g : SetD) (m : Nat) (f : Nat → Int) (j : Nat → Value) :
    (evalS E4 S4 1000 (seqL (seqL (postC 4 hbC))) (mkA 96 ([1, 6, 5].zip [.ptr 0 (.c 0), .sl 1 (.c 0) ⟨false, m⟩ 1, .ptr 2 (.c 0)]) j) (mkH [scO g nilO, bO m f, roomO g])).mapO (viewD 96 (vselD ⟨[1, 6, 46, 47, 48], [.of 1, .of 6, .of 46]⟩ ⟨[2, 3], []⟩ ⟨[], []⟩)) =
    .leaf ⟨.normal, [.ptr 0 (.c 0), .sl 1 (.c 0) ⟨false, m⟩ 1, .sl 2 (.c 0) ⟨true, 6⟩ 1, .int .i64 true 6, .int .i64 true 0], [scO g nilO, bO m f, l6N g]⟩ := by kernel_rfl
theorem hn_it0 (g : SetD) (m : Nat) (f : Nat → Int) (j : Nat → Value) :
    (evalS E4 S4 1000 (loopB (blockB (seqR (seqL (postC 4 hbC))))) (mkA 96 ([1, 6, 46, 47, 48].zip [.ptr 0 (.c 0), .sl 1 (.c 0) ⟨false, m⟩ 1, .sl 2 (.c 0) ⟨true, 6⟩ 1, .int .i64 true 6, .int .i64 true 0]) j) (mkH [scO g nilO, bO m f, l6O g 0])).mapO (viewD 96 (vselD ⟨[1, 6, 46, 47, 48], [.of 1, .of 6, .of 46]⟩ ⟨[2, 3], []⟩ ⟨[1, 6], [.of 1, .of 6]⟩)) =
    putT m f (fun m' f' => .leaf ⟨.normal, [.ptr 0 (.c 0), .sl 1 (.c 0) ⟨false, m'⟩ 1, .sl 2 (.c 0) ⟨true, 6⟩ 1, .int .i64 true 6, .int .i64 true 1], [scO g nilO, bO m' f', l6O g 0]⟩) (be4 (IntKind.u64.wrap g.most)) := by kernel_rfl
theorem hn_it1 (g : SetD) (m : Nat) (f : Nat → Int) (j : Nat → Value) :
    (evalS E4 S4 1000 (loopB (blockB (seqR (seqL (postC 4 hbC))))) (mkA 96 ([1, 6, 46, 47, 48].zip [.ptr 0 (.c 0), .sl 1 (.c 0) ⟨false, m⟩ 1, .sl 2 (.c 0) ⟨true, 6⟩ 1, .int .i64 true 6, .int .i64 true 1]) j) (mkH [scO g nilO, bO m f, l6O g 0])).mapO (viewD 96 (vselD ⟨[1, 6, 46, 47, 48], [.of 1, .of 6, .of 46]⟩ ⟨[2, 3], []⟩ ⟨[1, 6], [.of 1, .of 6]⟩)) =
    putT m f (fun m' f' => .leaf ⟨.normal, [.ptr 0 (.c 0), .sl 1 (.c 0) ⟨false, m'⟩ 1, .sl 2 (.c 0) ⟨true, 6⟩ 1, .int .i64 true 6, .int .i64 true 2], [scO g nilO, bO m' f', l6O g 0]⟩) (be4 (IntKind.u64.wrap g.rounds)) := by kernel_rfl
theorem hn_it2 (g : SetD) (m : Nat) (f : Nat → Int) (j : Nat → Value) :
    (evalS E4 S4 1000 (loopB (blockB (seqR (seqL (postC 4 hbC))))) (mkA 96 ([1, 6, 46, 47, 48].zip [.ptr 0 (.c 0), .sl 1 (.c 0) ⟨false, m⟩ 1, .sl 2 (.c 0) ⟨true, 6⟩ 1, .int .i64 true 6, .int .i64 true 2]) j) (mkH [scO g nilO, bO m f, l6O g 0])).mapO (viewD 96 (vselD ⟨[1, 6, 46, 47, 48], [.of 1, .of 6, .of 46]⟩ ⟨[2, 3], []⟩ ⟨[1, 6], [.of 1, .of 6]⟩)) =
    putT m f (fun m' f' => .leaf ⟨.normal, [.ptr 0 (.c 0), .sl 1 (.c 0) ⟨false, m'⟩ 1, .sl 2 (.c 0) ⟨true, 6⟩ 1, .int .i64 true 6, .int .i64 true 3], [scO g nilO, bO m' f', l6O g 0]⟩) (be4 (IntKind.u64.wrap g.sess)) := by kernel_rfl
theorem hn_it3 (g : SetD) (m : Nat) (f : Nat → Int) (j : Nat → Value) :
    (evalS E4 S4 1000 (loopB (blockB (seqR (seqL (postC 4 hbC))))) (mkA 96 ([1, 6, 46, 47, 48].zip [.ptr 0 (.c 0), .sl 1 (.c 0) ⟨false, m⟩ 1, .sl 2 (.c 0) ⟨true, 6⟩ 1, .int .i64 true 6, .int .i64 true 3]) j) (mkH [scO g nilO, bO m f, l6O g 0])).mapO (viewD 96 (vselD ⟨[1, 6, 46, 47, 48], [.of 1, .of 6, .of 46]⟩ ⟨[2, 3], []⟩ ⟨[1, 6], [.of 1, .of 6]⟩)) =
    putT m f (fun m' f' => .leaf ⟨.normal, [.ptr 0 (.c 0), .sl 1 (.c 0) ⟨false, m'⟩ 1, .sl 2 (.c 0) ⟨true, 6⟩ 1, .int .i64 true 6, .int .i64 true 4], [scO g nilO, bO m' f', l6O g 0]⟩) (be4 (IntKind.u64.wrap g.staged)) := by kernel_rfl
theorem hn_it4 (g : SetD) (m : Nat) (f : Nat → Int) (j : Nat → Value) :
    (evalS E4 S4 1000 (loopB (blockB (seqR (seqL (postC 4 hbC))))) (mkA 96 ([1, 6, 46, 47, 48].zip [.ptr 0 (.c 0), .sl 1 (.c 0) ⟨false, m⟩ 1, .sl 2 (.c 0) ⟨true, 6⟩ 1, .int .i64 true 6, .int .i64 true 4]) j) (mkH [scO g nilO, bO m f, l6O g 0])).mapO (viewD 96 (vselD ⟨[1, 6, 46, 47, 48], [.of 1, .of 6, .of 46]⟩ ⟨[2, 3], []⟩ ⟨[1, 6], [.of 1, .of 6]⟩)) =
    putT m f (fun m' f' => .leaf ⟨.normal, [.ptr 0 (.c 0), .sl 1 (.c 0) ⟨false, m'⟩ 1, .sl 2 (.c 0) ⟨true, 6⟩ 1, .int .i64 true 6, .int .i64 true 5], [scO g nilO, bO m' f', l6O g 0]⟩) (be4 (IntKind.u64.wrap g.queue)) := by kernel_rfl
theorem hn_it5 (g : SetD) (m : Nat) (f : Nat → Int) (j : Nat → Value) :
    (evalS E4 S4 1000 (loopB (blockB (seqR (seqL (postC 4 hbC))))) (mkA 96 ([1, 6, 46, 47, 48].zip [.ptr 0 (.c 0), .sl 1 (.c 0) ⟨false, m⟩ 1, .sl 2 (.c 0) ⟨true, 6⟩ 1, .int .i64 true 6, .int .i64 true 5]) j) (mkH [scO g nilO, bO m f, l6O g 0])).mapO (viewD 96 (vselD ⟨[1, 6, 46, 47, 48], [.of 1, .of 6, .of 46]⟩ ⟨[2, 3], []⟩ ⟨[1, 6], [.of 1, .of 6]⟩)) =
    putT m f (fun m' f' => .leaf ⟨.normal, [.ptr 0 (.c 0), .sl 1 (.c 0) ⟨false, m'⟩ 1, .sl 2 (.c 0) ⟨true, 6⟩ 1, .int .i64 true 6, .int .i64 true 6], [scO g nilO, bO m' f', l6O g 0]⟩) (be4 (IntKind.u64.wrap 0)) := by kernel_rfl
theorem hn_it6 (g : SetD) (m : Nat) (f : Nat → Int) (j : Nat → Value) :
    (evalS E4 S4 1000 (loopB (blockB (seqR (seqL (postC 4 hbC))))) (mkA 96 ([1, 6, 46, 47, 48].zip [.ptr 0 (.c 0), .sl 1 (.c 0) ⟨false, m⟩ 1, .sl 2 (.c 0) ⟨true, 6⟩ 1, .int .i64 true 6, .int .i64 true 6]) j) (mkH [scO g nilO, bO m f, l6O g 0])).mapO (viewD 96 (vselD ⟨[1, 6, 46, 47, 48], [.of 1, .of 6, .of 46]⟩ ⟨[2, 3], []⟩ ⟨[1, 6], [.of 1, .of 6]⟩)) =
    .leaf ⟨.exit 0, [.ptr 0 (.c 0), .sl 1 (.c 0) ⟨false, m⟩ 1], [scO g nilO, bO m f]⟩ := by kernel_rfl
theorem hn_fin (g : SetD) (m : Nat) (f : Nat → Int) (j : Nat → Value) :
    (evalS E4 S4 1000 (seqR (postC 4 hbC)) (mkA 96 ([1, 6].zip [.ptr 0 (.c 0), .sl 1 (.c 0) ⟨false, m⟩ 1]) j) (mkH [scO g nilO, bO m f])).mapO (viewD 96 (vselD ⟨[], []⟩ ⟨[2, 3], []⟩ ⟨[], []⟩)) =
    .node (Nat.ble (Nat.div 0 1 + m) m) (.leaf ⟨.ret, [.str false (strOfF m f), .int .i64 true 0], []⟩) .fail := by kernel_rfl
theorem hn_loop1 (g : SetD) {ρ0 : Emb} {w : World} (hro : ∀ i g, ρ0 i = .img g → g.rw = false) (hck : checkR csV opV g [] = 0) (f0 : Nat → Int)
    (hf0 : bL 27 f0 = hdB g) (b1 : Act) (w1 : World) (st : StL ρ0 w 96 ([1, 6, 5].zip [.ptr 0 (.c 0), .sl 1 (.c 0) ⟨false, 27⟩ 1, .ptr 2 (.c 0)]) [scO g nilO, bO 27 f0, roomO g] b1 w1) :
    (postC 4 hbC).wp E4.P (bodyPostD E4.P hbF (fun e w' => e = .returned (hbV g []) ∧ Below w.heap.size w w')) b1 w1 := by
  refine wp_seqP (by kernel_rfl) ?_
  refine wp_seqP (by kernel_rfl) ?_
  refine StL.pieceD sound4 thom4 1000 (by decide) (by kernel_rfl) (hn_r6 g 27 f0) st ?_
  refine Holds.leaf ⟨rfl, fun b2 w2 st => ?_⟩
  show Code.wp E4.P (seqR (seqL (postC 4 hbC))) _ b2 w2
  refine wp_blockP (by kernel_rfl) ?_
  refine wp_loopP (by kernel_rfl) (fun M x w' => ∃ (i m : Nat) (f : Nat → Int), M = 6 - i ∧ i ≤ 6 ∧ m = 27 + 4 * i ∧ bL m f = hdB g ++ enc4 ((l6 g 0).take i) ∧
    StL ρ0 w 96 ([1, 6, 46, 47, 48].zip [.ptr 0 (.c 0), .sl 1 (.c 0) ⟨false, m⟩ 1, .sl 2 (.c 0) ⟨true, 6⟩ 1, .int .i64 true 6, .int .i64 false i]) [scO g nilO, bO m f, l6O g 0] x w') ?_ ⟨0, 27, f0, rfl, by omega, rfl, by rw [hf0]; simp [enc4], st.conv rfl rfl⟩
  rintro _ b3 w3 ⟨i, m, f, rfl, hi, hm, hf, st⟩
  have hcase : i = 0 ∨ i = 1 ∨ i = 2 ∨ i = 3 ∨ i = 4 ∨ i = 5 ∨ i = 6 := by omega
  rcases hcase with rfl | rfl | rfl | rfl | rfl | rfl | rfl
  · refine StL.pieceD sound4 thom4 1000 (by decide) (by kernel_rfl) (hn_it0 g m f) (st.conv rfl rfl) ?_
    refine Holds.put _ m f (by simp only [List.length_cons, List.length_nil]; omega) ?_
    refine .leaf ⟨rfl, fun b4 w4 st => ⟨6 - 1, by omega, 1, _, _, rfl, by omega, ?_, ?_, st.conv rfl rfl⟩⟩
    · rw [apN_eq, hm]; rfl
    · rw [bL_apF, hf, List.append_assoc, enc4_take _ 0 _ rfl]
  · refine StL.pieceD sound4 thom4 1000 (by decide) (by kernel_rfl) (hn_it1 g m f) (st.conv rfl rfl) ?_
    refine Holds.put _ m f (by simp only [List.length_cons, List.length_nil]; omega) ?_
    refine .leaf ⟨rfl, fun b4 w4 st => ⟨6 - 2, by omega, 2, _, _, rfl, by omega, ?_, ?_, st.conv rfl rfl⟩⟩
    · rw [apN_eq, hm]; rfl
    · rw [bL_apF, hf, List.append_assoc, enc4_take _ 1 _ rfl]
  · refine StL.pieceD sound4 thom4 1000 (by decide) (by kernel_rfl) (hn_it2 g m f) (st.conv rfl rfl) ?_
    refine Holds.put _ m f (by simp only [List.length_cons, List.length_nil]; omega) ?_
    refine .leaf ⟨rfl, fun b4 w4 st => ⟨6 - 3, by omega, 3, _, _, rfl, by omega, ?_, ?_, st.conv rfl rfl⟩⟩
    · rw [apN_eq, hm]; rfl
    · rw [bL_apF, hf, List.append_assoc, enc4_take _ 2 _ rfl]
  · refine StL.pieceD sound4 thom4 1000 (by decide) (by kernel_rfl) (hn_it3 g m f) (st.conv rfl rfl) ?_
    refine Holds.put _ m f (by simp only [List.length_cons, List.length_nil]; omega) ?_
    refine .leaf ⟨rfl, fun b4 w4 st => ⟨6 - 4, by omega, 4, _, _, rfl, by omega, ?_, ?_, st.conv rfl rfl⟩⟩
    · rw [apN_eq, hm]; rfl
    · rw [bL_apF, hf, List.append_assoc, enc4_take _ 3 _ rfl]
  · refine StL.pieceD sound4 thom4 1000 (by decide) (by kernel_rfl) (hn_it4 g m f) (st.conv rfl rfl) ?_
    refine Holds.put _ m f (by simp only [List.length_cons, List.length_nil]; omega) ?_
    refine .leaf ⟨rfl, fun b4 w4 st => ⟨6 - 5, by omega, 5, _, _, rfl, by omega, ?_, ?_, st.conv rfl rfl⟩⟩
    · rw [apN_eq, hm]; rfl
    · rw [bL_apF, hf, List.append_assoc, enc4_take _ 4 _ rfl]
  · refine StL.pieceD sound4 thom4 1000 (by decide) (by kernel_rfl) (hn_it5 g m f) (st.conv rfl rfl) ?_
    refine Holds.put _ m f (by simp only [List.length_cons, List.length_nil]; omega) ?_
    refine .leaf ⟨rfl, fun b4 w4 st => ⟨6 - 6, by omega, 6, _, _, rfl, by omega, ?_, ?_, st.conv rfl rfl⟩⟩
    · rw [apN_eq, hm]; rfl
    · rw [bL_apF, hf, List.append_assoc, enc4_take _ 5 _ rfl]
  · refine StL.pieceD sound4 thom4 1000 (by decide) (by kernel_rfl) (hn_it6 g m f) (st.conv rfl rfl) ?_
    refine Holds.leaf ⟨rfl, fun b4 w4 st => ?_⟩
    show Code.wp E4.P (seqR (postC 4 hbC)) _ b4 w4
    refine StL.pieceD sound4 thom4 1000 (by decide) (by kernel_rfl) (hn_fin g m f) st ?_
    refine Holds.yesB (bleB m) (.leaf ⟨rfl, fun b9 w9 st => hb_end hro _ _ _ _ _ b9 w9 st ?_⟩)
    rw [hbV, if_pos hck, strOfF_bL, hf, encB, List.flatMap_nil, List.append_nil]
    rfl
theorem hb_nil (g : SetD) (w : World) : Calls Tryz.prog 7 (dens [scrS g nilO]).toArray w fun e w' => e = .returned (hbV g []) ∧ Below w.heap.size w w' := by
  have wr : WRel (wEmb []) (mkH []).den w := wEmb_WRel (l := []) (O := []) rfl (by decide) (fun s hs => by cases hs) fun i s o hs => by simp at hs
  have hro := wEmb_ro (l := []) (fun s hs => by cases hs)
  refine calls_StL (E := E4) (sargs := [scrS g nilO]) hbF_some hbC_some hbF_n (by decide) (by simp) wr (.cons _ _ _ _ nilW_rel .nil) fun bb st => ?_
  refine StL.preD sound4 thom4 1000 3 (by decide) hbC_plans (by kernel_rfl) (hn_pre g) st ?_
  refine Holds.node (fun h0 => ?_) fun h0 => ?_
  · have h0 : checkR csV opV g [] ≠ 0 := by simpa using h0
    exact .leaf ⟨rfl, fun b1 w1 st => hb_end hro _ _ _ _ _ b1 w1 st (by rw [hbV, if_neg h0])⟩
  have hck : checkR csV opV g [] = 0 := by simpa using h0
  refine Holds.node (fun h1 => Holds.node (fun h2 => Holds.node (fun h3 => ?_) fun h3 => ?_) fun h2 => Holds.node (fun h3 => ?_) fun h3 => ?_) fun h1 => Holds.node (fun h2 => Holds.node (fun h3 => ?_) fun h3 => ?_) fun h2 => Holds.node (fun h3 => ?_) fun h3 => ?_
  · refine .leaf ⟨rfl, fun b1 w1 st => ?_⟩
    exact hn_loop1 g hro hck (hdF (hd27 g 1 1 1)) (by rw [hdF_bL _ 27 rfl, hdB, h1, h2, h3]; rfl) b1 w1 (st.conv rfl (by kernel_rfl))
  · refine .leaf ⟨rfl, fun b1 w1 st => ?_⟩
    exact hn_loop1 g hro hck (hdF (hd27 g 1 1 0)) (by rw [hdF_bL _ 27 rfl, hdB, h1, h2, h3]; rfl) b1 w1 (st.conv rfl (by kernel_rfl))
  · refine .leaf ⟨rfl, fun b1 w1 st => ?_⟩
    exact hn_loop1 g hro hck (hdF (hd27 g 1 0 1)) (by rw [hdF_bL _ 27 rfl, hdB, h1, h2, h3]; rfl) b1 w1 (st.conv rfl (by kernel_rfl))
  · refine .leaf ⟨rfl, fun b1 w1 st => ?_⟩
    exact hn_loop1 g hro hck (hdF (hd27 g 1 0 0)) (by rw [hdF_bL _ 27 rfl, hdB, h1, h2, h3]; rfl) b1 w1 (st.conv rfl (by kernel_rfl))
  · refine .leaf ⟨rfl, fun b1 w1 st => ?_⟩
    exact hn_loop1 g hro hck (hdF (hd27 g 0 1 1)) (by rw [hdF_bL _ 27 rfl, hdB, h1, h2, h3]; rfl) b1 w1 (st.conv rfl (by kernel_rfl))
  · refine .leaf ⟨rfl, fun b1 w1 st => ?_⟩
    exact hn_loop1 g hro hck (hdF (hd27 g 0 1 0)) (by rw [hdF_bL _ 27 rfl, hdB, h1, h2, h3]; rfl) b1 w1 (st.conv rfl (by kernel_rfl))
  · refine .leaf ⟨rfl, fun b1 w1 st => ?_⟩
    exact hn_loop1 g hro hck (hdF (hd27 g 0 0 1)) (by rw [hdF_bL _ 27 rfl, hdB, h1, h2, h3]; rfl) b1 w1 (st.conv rfl (by kernel_rfl))
  · refine .leaf ⟨rfl, fun b1 w1 st => ?_⟩
    exact hn_loop1 g hro hck (hdF (hd27 g 0 0 0)) (by rw [hdF_bL _ 27 rfl, hdB, h1, h2, h3]; rfl) b1 w1 (st.conv rfl (by kernel_rfl))
theorem hbV_plain (g : SetD) (ops : List OpD) : plainR (hbV g ops) = true := by
  unfold hbV
  split <;> rfl
theorem tab_hb : TabOK Tryz.prog 7 (scrA hbV) :=
  scr_tab hbV_plain hb_nil fun g len k s b n _ _ _ hl hro wr ra => hb_arr g len k s b n hl hro wr ra
end Go.Ev
end
section
namespace Go.Ev
open Go.Proofs Go.RowKit
/-! history.Read's deferred call, where there is nothing to catch -/
theorem read_idle (p q : Value) (w : World) : CallsD Tryz.prog 15 #[p, q] .returning w fun e u' w' => e = .returned (.tuple #[]) ∧ u' = .returning ∧ w' = w := by
  have hnil : ∀ w : World, (binOp BinOp.eql 20 .nilIface .nilIface).run Tryz.prog w = .ok (.bool true) w := fun _ => by kernel_rfl
  refine callsD_of_wpS Tryz.func15 rfl fun c₀ cs hu => ?_
  apply wpS_seq
  apply wpS_region
  simp [wpOpsS, go_sem, recoverD, hu, Tryz.ntmps15, Exit.thenS]
  refine wpS_of_wp ?_
  have ht : #[p, q] ++ (Array.replicate 12 undef).setIfInBounds 3 Value.nilIface = #[p, q, undef, undef, undef, .nilIface, undef, undef, undef, undef, undef, undef, undef, undef] := by rfl
  rw [ht]
  go_wp2
  cases c₀
  simp_all [bodyPostS, results, Tryz.results15]
theorem quietR : (∃ fn, Tryz.prog.funcs[15]? = some fn ∧ fn.body.isSome = true) ∧ ∀ (ρ : Emb) (hh : AH) (w : World) (args : Array Value), args.size = 2 → WRel ρ hh w →
    CallsD Tryz.prog 15 args .returning w (fun e u' w' => (∃ v, e = .returned v) ∧ u' = .returning ∧ WRel ρ hh w' ∧ Step ρ w ρ w') := by
  refine ⟨⟨_, Tryz.func15, rfl⟩, fun ρ hh w args ha wr => ?_⟩
  obtain ⟨l⟩ := args
  match l, ha with
  | [p, q], _ =>
    refine (read_idle p q w).mono ?_
    rintro e u' w' ⟨rfl, rfl, rfl⟩
    exact ⟨⟨_, rfl⟩, rfl, wr, Step.refl _ _⟩
end Go.Ev
end
section
set_option maxRecDepth 100000
namespace Go.Ev
open Go.Proofs Go.RowKit
/-! (*history.reader).script -/
noncomputable def rdrC : Code := match Tryz.prog.funcs[16]? with | some fn => fn.body.getD .skip | none => .skip
noncomputable def rdrF : Func := match Tryz.prog.funcs[16]? with | some fn => fn | none => default
theorem rdrF_some : Tryz.prog.funcs[16]? = some rdrF := by kernel_rfl
theorem rdrC_some : rdrF.body = some rdrC := by kernel_rfl
theorem rdrF_n : rdrF.ntmps = 93 := by kernel_rfl
theorem rdrC_plans : plansIn rdrC = true := by kernel_rfl
noncomputable section
abbrev rO (t : ByteArray) : SObj := .cells [.str false t] true
abbrev panL (e : Int) : Tree View := .leaf ⟨.panic (.iface 60 (.agg [.int .i64 true e])), [], []⟩
def needT (c : Bool) (e : Int) (k : Tree View) : Tree View := .node (!c) (panL e) k
def cutT (t : ByteArray) (n : Int) (k : Tree View) : Tree View :=
  needT (decide ((t.size : Int) ≥ n)) 7 (.node (decide (0 ≤ n) && Nat.ble n.toNat t.size) (.node (decide (0 ≤ n) && Nat.ble n.toNat t.size) k .fail) .fail)
def takeT (t : ByteArray) (n : Nat) (k : Int → ByteArray → Tree View) : Tree View := cutT t n (k (takeV t n) (drB n t))
def numT (t : ByteArray) (k : Int → Bool → ByteArray → Tree View) : Tree View :=
  takeT t 8 fun v t1 => needT (IntKind.i64.wrap v != -9223372036854775808) 4 (takeT t1 1 fun f t2 => needT (decide (f ≤ 1)) 4 (k (IntKind.i64.wrap v) (f == 1) t2))
def countT (t : ByteArray) (k : Int → ByteArray → Tree View) : Tree View :=
  takeT t 4 fun v t1 => needT (decide (v ≤ 2147483647)) 4 (k (IntKind.i64.wrap v) t1)
def preT (t : ByteArray) : Tree View :=
  numT t fun x xf t => numT t fun y yf t => numT t fun d df t => countT t fun c1 t => countT t fun c2 t => countT t fun c3 t => countT t fun c4 t => countT t fun c5 t =>
    countT t fun n t => needT (decide (n ≤ 400)) 6 (.leaf ⟨.normal, [.ptr 0 (.c 0), .ptr 1 (.c 0), .int .i64 false n], [rO t, scX ⟨x, xf, y, yf, d, df, c1, c2, c3, c4, c5⟩ nilO]⟩)
end
theorem rdr_pre (t : ByteArray) (j : Nat → Value) : (evalS E0 noS 1000 (preC 11 rdrC) (mkA 93 (argL [.ptr 0 (.c 0)]) j) (mkH [rO t])).mapO (viewD 93 (vselD ⟨[0, 2, 3], [.id 0, .of 2]⟩ ⟨[], []⟩ ⟨[], []⟩)) = preT t := by kernel_rfl
end Go.Ev
end
section
set_option maxRecDepth 100000
namespace Go.Ev
open Go.Proofs Go.RowKit
/-! history.Read's deferred call, where it catches -/
noncomputable def rcC : Code := match Tryz.prog.funcs[15]? with | some fn => fn.body.getD .skip | none => .skip
noncomputable def rcF : Func := match Tryz.prog.funcs[15]? with | some fn => fn | none => default
theorem rcF_some : Tryz.prog.funcs[15]? = some rcF := by kernel_rfl
theorem rcC_some : rcF.body = some rcC := by kernel_rfl
theorem rcF_n : rcF.ntmps = 14 := by kernel_rfl
theorem rcF_res : rcF.results = #[] := by kernel_rfl
theorem rcC_plans : plansIn (seqR rcC) = true := by kernel_rfl
noncomputable def rcO : Oper := match regOp (seqL rcC) with | some o => o | none => default
theorem rcO_some : regOp (seqL rcC) = some rcO := by kernel_rfl
theorem rcO_dst : rcO.dst = some 5 := by kernel_rfl
theorem rcO_guard : rcO.guard = none := by kernel_rfl
theorem rcO_run (a : Act) (w : World) : (execOp a.eval rcO).run Tryz.prog w = .ok .recover w := by kernel_rfl
noncomputable abbrev scrZ : SObj := .cells [.int .i64 true 0, .bool true false, .int .i64 true 0, .bool true false, .int .i64 true 0, .bool true false, .int .i64 true 0, .int .i64 true 0, .int .i64 true 0, .int .i64 true 0, .int .i64 true 0, nilO] true
theorem rc_walk (g : SetD) (m n : Int) (j : Nat → Value) : (evalS E0 noS 1000 (seqR rcC) (mkA 14 ((5, .iface 60 (.agg [.int .i64 false n])) :: argL [.ptr 0 (.c 0), .ptr 1 (.c 0)]) j) (mkH [scrC g, numC m])).mapO (viewD 14 (vselD ⟨[], [.id 0, .id 1]⟩ ⟨[], []⟩ ⟨[], []⟩)) = .leaf ⟨.normal, [], [scrZ, numC n]⟩ := by kernel_rfl
theorem rcd (g : SetD) (m n : Int) {ρ : Emb} {w : World} {args' : Array Value} (wr : WRel ρ (mkH [scrC g, numC m]).den w) (ra : VsRel ρ (dens [.ptr 0 (.c 0), .ptr 1 (.c 0)]) args'.toList) :
    CallsD Tryz.prog 15 args' (.panicking [⟨.iface 60 (.agg #[.int .i64 n]), false, false⟩]) w (fun e u' w' => (∃ v, e = .returned v) ∧ settle u' = .returning ∧ RcEnd ρ w n w') := by
  have h0 : ∀ i, i < 2 → ρ i ≠ .free := fun i hi => by
    obtain ⟨g1, h1, _⟩ := wr.cells (i := 0) (c := dens (g.sv ++ [nilO])) (rw := true) rfl (.inr rfl)
    obtain ⟨g2, h2, _⟩ := wr.cells (i := 1) (c := dens [.int .i64 false m]) (rw := true) rfl (.inr rfl)
    match i, hi with
    | 0, _ => rw [h1]; simp
    | 1, _ => rw [h2]; simp
  refine callsD_of_wpS rcF_some rcC_some fun c₀ cs hu => ?_
  refine wpS_seqP (by kernel_rfl) ?_
  refine wpS_rec rcO_some rcO_guard (rcO_run _ _) (v := .iface 60 (.agg #[.int .i64 n])) (cs' := { c₀ with mode := .panicking [⟨.iface 60 (.agg #[.int .i64 n]), true, false⟩] } :: cs) (by simp [recoverD, hu]) ?_
  show Code.wpS _ (seqR rcC) _ _ _ _
  refine wpS_of_wp ?_
  rw [rcO_dst, rcF_n]
  have st := StM.caught 2 (n := 14) (by decide) (by simp) wr ra (d := 5) (by decide) (v := .iface 60 (.agg [.int .i64 false n])) (v' := .iface 60 (.agg #[.int .i64 n])) (.iface _ _ _ (plainV_rel rfl))
  refine StM.pieceP sound0 TabHom.none 1000 h0 (by decide) rcC_plans (rc_walk g m n) st ?_
  refine Holds.leaf ⟨rfl, fun b1 w1 _ sm => ?_⟩
  have st := sm rfl
  refine ⟨st.defers, _, rfl, .tuple #[], by simp [results, rcF_res], ⟨_, rfl⟩, rfl, ?_⟩
  obtain ⟨j, ρf, _, wf, fr, pn⟩ := st.conv (us := []) (O' := [scrC zSet, numC n]) rfl rfl
  exact ⟨ρf, fr, pn, wf⟩
end Go.Ev
end
section
set_option maxRecDepth 100000
namespace Go.Ev
open Go.Proofs Go.RowKit
/-! (*history.reader).script: the loop and the end -/
noncomputable section
abbrev rdrB : Code := loopB (blockB (seqR (seqL (postC 11 rdrC))))
abbrev rdrE : Code := seqR (postC 11 rdrC)
def opT (r : ByteArray) (k : OpD → List SV → ByteArray → Tree View) : Tree View :=
  takeT r 1 fun a r1 => takeT r1 1 fun b r2 => .node (IntKind.i64.wrap a == 3)
    (countT r2 fun n r3 => needT (decide (n ≤ 65536)) 6 (cutT r3 n (k ⟨IntKind.i64.wrap a, IntKind.i64.wrap b, r3.extract 0 n.toNat, 0⟩ [.int .i64 false (IntKind.i64.wrap a), .int .i64 false (IntKind.i64.wrap b), .str false (r3.extract 0 n.toNat), .int .i64 true 0] (drB n.toNat r3))))
    (.node (IntKind.i64.wrap a == 4) (countT r2 fun n r3 => k ⟨IntKind.i64.wrap a, IntKind.i64.wrap b, noBytes, n⟩ [.int .i64 false (IntKind.i64.wrap a), .int .i64 false (IntKind.i64.wrap b), .str true noBytes, .int .i64 false n] r3)
      (k ⟨IntKind.i64.wrap a, IntKind.i64.wrap b, noBytes, 0⟩ [.int .i64 false (IntKind.i64.wrap a), .int .i64 false (IntKind.i64.wrap b), .str true noBytes, .int .i64 true 0] r2))
end
theorem rdr_r11 (g : SetD) (r : ByteArray) (n : Int) (j : Nat → Value) : (evalS E0 noS 1000 (seqL (seqL (postC 11 rdrC))) (mkA 93 ([0, 2, 3].zip [.ptr 0 (.c 0), .ptr 1 (.c 0), .int .i64 false n]) j) (mkH [rO r, scX g nilO])).mapO (viewD 93 (vselP ⟨[0, 2, 50, 51], [.id 0, .of 2]⟩ ⟨[], []⟩ ⟨[], []⟩)) =
    .leaf ⟨.normal, [.ptr 0 (.c 0), .ptr 1 (.c 0), .int .i64 false n, .int .i64 true 0], [rO r, scX g nilO]⟩ := by kernel_rfl
theorem rdr_it0 (g : SetD) (r : ByteArray) (n : Int) (i : Nat) (j : Nat → Value) : (evalS E0 noS 1000 rdrB (mkA 93 ([0, 2, 50, 51].zip [.ptr 0 (.c 0), .ptr 1 (.c 0), .int .i64 false n, .int .i64 false i]) j) (mkH [rO r, scX g nilO])).mapO (viewD 93 (vselP ⟨[0, 2, 50, 51], [.id 0, .of 2, .fld 2 11]⟩ ⟨[0, 2], [.id 0, .of 2]⟩ ⟨[], []⟩)) =
    .node (decide ((i : Int) < n)) (opT r fun _ row r2 => .leaf ⟨.normal, [.ptr 0 (.c 0), .ptr 1 (.c 0), .int .i64 false n, .int .i64 false (IntKind.i64.wrap ((i : Int) + 1))], [rO r2, scX g (.sl 2 (.c 0) ⟨true, 1⟩ 4), .cells row true]⟩)
      (.leaf ⟨.exit 0, [.ptr 0 (.c 0), .ptr 1 (.c 0)], [rO r, scX g nilO]⟩) := by kernel_rfl
theorem rdr_it1 (g : SetD) (M : Nat) (K S : Nat → Int) (B : Nat → ByteArray) (N : Nat → Int) (r : ByteArray) (n : Int) (i : Nat) (j : Nat → Value) : (evalS E0 noS 1000 rdrB (mkA 93 ([0, 2, 50, 51].zip [.ptr 0 (.c 0), .ptr 1 (.c 0), .int .i64 false n, .int .i64 false i]) j) (mkH [rO r, scX g (slA 2 M), outA M K S B N])).mapO (viewD 93 (vselP ⟨[0, 2, 50, 51], [.id 0, .of 2, .fld 2 11]⟩ ⟨[0, 2], [.id 0, .of 2, .fld 2 11]⟩ ⟨[], []⟩)) =
    .node (decide ((i : Int) < n)) (opT r fun _ row r2 => .node ((M + 1).ble 70368744177664 && capRoom (M + 1) 40) (.node ((Nat.div 0 4 + M).ble M) (.leaf ⟨.normal, [.ptr 0 (.c 0), .ptr 1 (.c 0), .int .i64 false n, .int .i64 false (IntKind.i64.wrap ((i : Int) + 1))], [rO r2, scX g (slA 2 (M + 1)), apO M K S B N row]⟩) .fail) .fail)
      (.leaf ⟨.exit 0, [.ptr 0 (.c 0), .ptr 1 (.c 0)], [rO r, scX g (slA 2 M), outA M K S B N]⟩) := by kernel_rfl
theorem rdr_end0 (g : SetD) (r : ByteArray) (j : Nat → Value) : (evalS E0 noS 1000 rdrE (mkA 93 ([0, 2].zip [.ptr 0 (.c 0), .ptr 1 (.c 0)]) j) (mkH [rO r, scX g nilO])).mapO (viewD 93 (vselP ⟨[0, 2], [.id 0, .of 2]⟩ ⟨[], []⟩ ⟨[], []⟩)) =
    needT (r.toList == noBytes.toList) 6 (.leaf ⟨.ret, [.ptr 0 (.c 0), .ptr 1 (.c 0)], [rO r, scX g nilO]⟩) := by kernel_rfl
theorem rdr_end1 (g : SetD) (M : Nat) (K S : Nat → Int) (B : Nat → ByteArray) (N : Nat → Int) (r : ByteArray) (j : Nat → Value) : (evalS E0 noS 1000 rdrE (mkA 93 ([0, 2].zip [.ptr 0 (.c 0), .ptr 1 (.c 0)]) j) (mkH [rO r, scX g (slA 2 M), outA M K S B N])).mapO (viewD 93 (vselP ⟨[0, 2], [.id 0, .of 2, .fld 2 11]⟩ ⟨[], []⟩ ⟨[], []⟩)) =
    needT (r.toList == noBytes.toList) 6 (.leaf ⟨.ret, [.ptr 0 (.c 0), .ptr 1 (.c 0)], [rO r, scX g (slA 2 M), outA M K S B N]⟩) := by kernel_rfl
theorem rdr_res0 (g : SetD) (r : ByteArray) (j : Nat → Value) : (sResults Tryz.prog (mkA 93 ([0, 2].zip [.ptr 0 (.c 0), .ptr 1 (.c 0)]) j) rdrF.results.toList).run 0 (mkH [rO r, scX g nilO]) = .leaf ([scrS g nilO], mkH [rO r, scX g nilO]) := by kernel_rfl
theorem rdr_res1 (g : SetD) (M : Nat) (K S : Nat → Int) (B : Nat → ByteArray) (N : Nat → Int) (r : ByteArray) (j : Nat → Value) : (sResults Tryz.prog (mkA 93 ([0, 2].zip [.ptr 0 (.c 0), .ptr 1 (.c 0)]) j) rdrF.results.toList).run 0 (mkH [rO r, scX g (slA 2 M), outA M K S B N]) = .leaf ([scrS g (slA 2 M)], mkH [rO r, scX g (slA 2 M), outA M K S B N]) := by kernel_rfl
end Go.Ev
end
section
set_option maxRecDepth 100000
namespace Go.Ev
open Go.Proofs Go.RowKit Go.IntWalk
/-! (*history.reader).script: what it does -/
section
variable {p : View → Prop} {α : Type} {bad : Int → α} {r : α}
theorem need_holds {c : Bool} {e : Int} {k : α} {T : Tree View} (hb : ∀ e, e ≠ 0 → bad e = r → Holds p (panL e)) (he : e ≠ 0) (hr : needC c e bad k = r) (hk : c = true → k = r → Holds p T) : Holds p (needT c e T) := by
  unfold needC at hr
  unfold needT
  cases c with
  | true => exact Holds.node (fun h => by cases h) fun _ => hk rfl (by simpa using hr)
  | false => exact Holds.node (fun _ => hb e he (by simpa using hr)) fun h => by cases h
theorem cut_holds {t : ByteArray} {n : Int} {k : α} {T : Tree View} (hn : 0 ≤ n) (hb : ∀ e, e ≠ 0 → bad e = r → Holds p (panL e)) (hr : needC (decide ((t.size : Int) ≥ n)) 7 bad k = r) (hk : n ≤ (t.size : Int) → k = r → Holds p T) : Holds p (cutT t n T) := by
  refine need_holds hb (by decide) hr fun hc hr => ?_
  have hc : n ≤ (t.size : Int) := by simpa using hc
  have h2 : (decide (0 ≤ n) && Nat.ble n.toNat t.size) = true := by
    rw [decide_eq_true hn, Bool.true_and]
    exact Nat.ble_eq_true_of_le (by omega)
  exact Holds.yesB h2 (Holds.yesB h2 (hk hc hr))
theorem take_holds {t : ByteArray} {n : Nat} {k : Int → ByteArray → α} {T : Int → ByteArray → Tree View} (hb : ∀ e, e ≠ 0 → bad e = r → Holds p (panL e)) (hr : takeC t n bad k = r) (hk : n ≤ t.size → k (takeV t n) (drB n t) = r → Holds p (T (takeV t n) (drB n t))) : Holds p (takeT t n T) := by
  unfold takeT
  refine cut_holds (by omega) hb (k := k (takeV t n) (drB n t)) ?_ fun hc hr => hk (by omega) hr
  unfold takeC at hr
  rw [← hr]
  congr 1
  rw [decide_eq_decide]
  omega
theorem num_holds {t : ByteArray} {k : Int → Bool → ByteArray → α} {T : Int → Bool → ByteArray → Tree View} (hb : ∀ e, e ≠ 0 → bad e = r → Holds p (panL e)) (hr : numbC t bad k = r) (hk : ∀ v f t1, k v f t1 = r → Holds p (T v f t1)) : Holds p (numT t T) :=
  take_holds hb hr fun _ hr => need_holds hb (by decide) hr fun _ hr => take_holds hb hr fun _ hr => need_holds hb (by decide) hr fun _ hr => hk _ _ _ hr
theorem takeV_nonneg (t : ByteArray) : ∀ n, 0 ≤ takeV t n
  | 0 => Int.le_refl _
  | n + 1 => by
    exact wrap_u64_nonneg _
theorem count_holds {t : ByteArray} {k : Int → ByteArray → α} {T : Int → ByteArray → Tree View} (hb : ∀ e, e ≠ 0 → bad e = r → Holds p (panL e)) (hr : countC t bad k = r) (hk : ∀ v t1, 0 ≤ v → v ≤ 2147483647 → k v t1 = r → Holds p (T v t1)) : Holds p (countT t T) :=
  take_holds hb hr fun _ hr => need_holds hb (by decide) hr fun hc hr => by
    have hc : takeV t 4 ≤ 2147483647 := by simpa using hc
    have h0 := takeV_nonneg t 4
    have he : IntKind.i64.wrap (takeV t 4) = takeV t 4 := i64_in _ ⟨by omega, by omega⟩
    exact hk _ _ (by rw [he]; exact h0) (by rw [he]; exact hc) hr
/-- The cells of a row say this op. -/
def RowOf (o : OpD) (row : List SV) : Prop := dens row = cellsOfOp o ∧ valInt (cellAt row 4 0 0) = o.k ∧ valInt (cellAt row 4 1 0) = o.s ∧ valStr (cellAt row 4 2 0) = o.b ∧ valInt (cellAt row 4 3 0) = o.n
theorem op_holds {t : ByteArray} {k : OpD → ByteArray → α} {T : OpD → List SV → ByteArray → Tree View} (hb : ∀ e, e ≠ 0 → bad e = r → Holds p (panL e)) (hr : opC t bad k = r) (hk : ∀ o row t1, RowOf o row → k o t1 = r → Holds p (T o row t1)) : Holds p (opT t T) := by
  refine take_holds hb hr fun _ hr => take_holds hb hr fun _ hr => Holds.node (fun h3 => ?_) fun h3 => ?_
  · have h3 : IntKind.i64.wrap (takeV t 1) = 3 := by simpa using h3
    rw [if_pos h3] at hr
    refine count_holds hb hr fun n t3 h0 _ hr => need_holds hb (by decide) hr fun _ hr => cut_holds h0 hb hr fun _ hr => hk _ _ _ ⟨rfl, rfl, rfl, rfl, rfl⟩ hr
  · have h3 : ¬ IntKind.i64.wrap (takeV t 1) = 3 := by simpa using h3
    rw [if_neg h3] at hr
    refine Holds.node (fun h4 => ?_) fun h4 => ?_
    · have h4 : IntKind.i64.wrap (takeV t 1) = 4 := by simpa using h4
      rw [if_pos h4] at hr
      exact count_holds hb hr fun n t3 _ _ hr => hk _ _ _ ⟨rfl, rfl, rfl, rfl, rfl⟩ hr
    · have h4 : ¬ IntKind.i64.wrap (takeV t 1) = 4 := by simpa using h4
      rw [if_neg h4] at hr
      exact hk _ _ _ ⟨rfl, rfl, rfl, rfl, rfl⟩ hr
end
theorem isEmpty_eq (t : ByteArray) : (t.toList == noBytes.toList) = decide (t.size = 0) := by
  rw [ByteArray.toList_eq, ByteArray.toList_eq]
  have h : t.size = t.data.toList.length := by rw [Array.length_toList]; rfl
  cases hl : t.data.toList with
  | nil => rw [h, hl]; rfl
  | cons a l => rw [h, hl]; rfl
theorem StL.defers {ρ0 : Emb} {w0 : World} {n : Nat} {L : List (Nat × SV)} {O : List SObj} {b : Act} {w : World} (st : StL ρ0 w0 n L O b w) : b.defers = [] := by
  obtain ⟨j, ρ, ar, _, _⟩ := st
  have hd := ar.defers
  rw [mkA_defers] at hd
  generalize b.defers = bd at hd
  cases hd
  rfl
/-- A panic, as it is told. -/
theorem rdr_pan {ρ0 : Emb} {w : World} {q : ParR} {e : Int} (he : e ≠ 0) (hr : badR e = q) {L : List (Nat × SV)} {O : List SObj} {b1 : Act} {w1 : World} (st : StL ρ0 w 93 L O b1 w1) : bodyPostD Tryz.prog rdrF (RdEnd 60 ρ0 w q) (.panic [⟨.iface 60 (.agg #[.int .i64 e]), false, false⟩]) b1 w1 := by
  subst hr
  show Leaves Tryz.prog rdrF b1.tmps _ b1.defers _ w1
  rw [st.defers]
  obtain ⟨j, ρf, _, _, fr⟩ := st
  exact ⟨ρf, fr, .inl ⟨he, rfl⟩⟩
theorem bleR (x : Nat) : Nat.ble (Nat.div 0 4 + x) x = true := Nat.ble_eq_true_of_le (show 0 + x ≤ x by omega)
theorem capR40 {x : Nat} (h : x ≤ 450) : (Nat.ble x 70368744177664 && capRoom x 40) = true := by
  rw [Nat.ble_eq_true_of_le (by omega : x ≤ 70368744177664), Bool.true_and]
  exact Nat.ble_eq_true_of_le (by omega)
noncomputable def objsR (g : SetD) (r : ByteArray) : List OpD → List SObj
  | [] => [rO r, scX g nilO]
  | o :: l => [rO r, scX g (slA 2 (l.length + 1)), outL (o :: l)]
theorem rdr_fin {g : SetD} {L : List OpD} {r : ByteArray} {q : ParR} (hr : opsR g 0 L r = q) {ρ0 : Emb} {w : World} (h0 : ∀ i, i < 1 → ρ0 i ≠ .free) {b1 : Act} {w1 : World} (st : StM 1 ρ0 w 93 ([0, 2].zip [.ptr 0 (.c 0), .ptr 1 (.c 0)]) (objsR g r L) b1 w1) : rdrE.wp E0.P (bodyPostD Tryz.prog rdrF (RdEnd 60 ρ0 w q)) b1 w1 := by
  unfold opsR at hr
  rw [← isEmpty_eq] at hr
  cases L with
  | nil =>
    refine StM.pieceP sound0 TabHom.none 1000 h0 (by decide) (by kernel_rfl) (rdr_end0 g r) st ?_
    refine need_holds (fun e he hr => .leaf ⟨rfl, fun b2 w2 sl _ => rdr_pan he hr sl⟩) (by decide) hr fun _ hr => ?_
    subst hr
    refine .leaf ⟨rfl, fun b2 w2 _ sm => ?_⟩
    refine StM.finish (E := E0) (rdr_res0 g r) (sm rfl) fun ρ v' rv wr fr pn => ⟨ρ, fr, .inr ⟨rfl, v', rfl, .inl ⟨rfl, rv⟩⟩⟩
  | cons o l =>
    refine StM.pieceP sound0 TabHom.none 1000 h0 (by decide) (by kernel_rfl) (rdr_end1 g (l.length + 1) _ _ _ _ r) st ?_
    refine need_holds (fun e he hr => .leaf ⟨rfl, fun b2 w2 sl _ => rdr_pan he hr sl⟩) (by decide) hr fun _ hr => ?_
    subst hr
    refine .leaf ⟨rfl, fun b2 w2 _ sm => ?_⟩
    refine StM.finish (E := E0) (rdr_res1 g (l.length + 1) _ _ _ _ r) (sm rfl) fun ρ v' rv wr fr pn => ⟨ρ, fr, .inr ⟨rfl, v', rfl, .inr ?_⟩⟩
    obtain ⟨g0, k1, k2⟩ := wr.cells (i := 0) (c := dens [.str false r]) (rw := true) rfl (.inr rfl)
    obtain ⟨g2, k3, k4⟩ := wr.live (i := 2) (o := (outL (o :: l)).den) rfl (by rw [outL_den]; simp) (by rw [outL_den]; simp)
    refine ⟨2, g2, k3, ?_, by simp, fun g9 hg9 => ?_, k4, rv⟩
    · rw [outL_den] at k4
      exact k4.1
    · have : g0 = g9 := by
        rcases pn 0 (by decide) with h9 | h9
        · rw [k1, hg9] at h9; cases h9; rfl
        · rw [k1] at h9; cases h9
      subst this
      exact wr.inj 0 2 g0 g2 (by decide) k1 k3 k2.1
theorem rdr_loop {g : SetD} {n : Int} {r : ByteArray} {q : ParR} (hn : 0 ≤ n) (hn2 : n ≤ 400) (hr : opsR g n.toNat [] r = q) {ρ0 : Emb} {w : World} (h0 : ∀ i, i < 1 → ρ0 i ≠ .free) {b1 : Act} {w1 : World} (st : StM 1 ρ0 w 93 ([0, 2, 3].zip [.ptr 0 (.c 0), .ptr 1 (.c 0), .int .i64 false n]) [rO r, scX g nilO] b1 w1) :
    (postC 11 rdrC).wp E0.P (bodyPostD Tryz.prog rdrF (RdEnd 60 ρ0 w q)) b1 w1 := by
  refine wp_seqP (by kernel_rfl) ?_
  refine wp_seqP (by kernel_rfl) ?_
  refine StM.pieceP sound0 TabHom.none 1000 h0 (by decide) (by kernel_rfl) (rdr_r11 g r n) st ?_
  refine Holds.leaf ⟨rfl, fun b2 w2 _ sm => ?_⟩
  have st := sm rfl
  show Code.wp E0.P (seqR (seqL (postC 11 rdrC))) _ b2 w2
  refine wp_blockP (by kernel_rfl) ?_
  refine wp_loopP (by kernel_rfl) (fun M x w' => ∃ (i : Nat) (L : List OpD) (r' : ByteArray), M = n.toNat - i ∧ i ≤ n.toNat ∧ L.length = i ∧ opsR g (n.toNat - i) L r' = q ∧
    StM 1 ρ0 w 93 ([0, 2, 50, 51].zip [.ptr 0 (.c 0), .ptr 1 (.c 0), .int .i64 false n, .int .i64 false i]) (objsR g r' L) x w') ?_ ⟨0, [], r, rfl, Nat.zero_le _, rfl, hr, st.conv rfl rfl⟩
  rintro _ b3 w3 ⟨i, L, r', rfl, hi, hl, hr, st⟩
  have hw : IntKind.i64.wrap ((i : Int) + 1) = ((i + 1 : Nat) : Int) := by
    rw [i64_in _ ⟨by omega, by omega⟩]; omega
  cases L with
  | nil =>
    refine StM.pieceP sound0 TabHom.none 1000 h0 (by decide) (by kernel_rfl) (rdr_it0 g r' n i) st ?_
    refine Holds.node (fun h => ?_) fun h => ?_
    · have h : (i : Int) < n := by simpa using h
      obtain ⟨m, hm⟩ : ∃ m, n.toNat - i = m + 1 := ⟨n.toNat - i - 1, by omega⟩
      rw [hm] at hr
      refine op_holds (fun e he hr => .leaf ⟨rfl, fun b2 w2 sl _ => rdr_pan he hr sl⟩) hr fun o row t1 hrow hr => ?_
      refine .leaf ⟨rfl, fun b4 w4 _ sm => ?_⟩
      have st := sm rfl
      rw [hw] at st
      refine ⟨n.toNat - (i + 1), by omega, i + 1, [o], t1, rfl, by omega, by simp at hl ⊢; omega, ?_, st.conv rfl ?_⟩
      · rw [show n.toNat - (i + 1) = m by omega]
        exact hr
      · simp only [objsR, List.map_cons, List.map_nil]
        rw [cells_one2 o hrow.1]
        rfl
    · have h : ¬ (i : Int) < n := by simpa using h
      have he : n.toNat - i = 0 := by omega
      rw [he] at hr
      exact .leaf ⟨rfl, fun b4 w4 _ sm => rdr_fin (L := []) hr h0 (sm rfl)⟩
  | cons o0 L0 =>
    refine StM.pieceP sound0 TabHom.none 1000 h0 (by decide) (by kernel_rfl) (rdr_it1 g (L0.length + 1) _ _ _ _ r' n i) st ?_
    refine Holds.node (fun h => ?_) fun h => ?_
    · have h : (i : Int) < n := by simpa using h
      obtain ⟨m, hm⟩ : ∃ m, n.toNat - i = m + 1 := ⟨n.toNat - i - 1, by omega⟩
      rw [hm] at hr
      have hl : L0.length + 1 = i := hl
      refine op_holds (fun e he hr => .leaf ⟨rfl, fun b2 w2 sl _ => rdr_pan he hr sl⟩) hr fun o row t1 hrow hr => ?_
      refine Holds.yesB (capR40 (by omega)) (Holds.yesB (bleR _) ?_)
      refine .leaf ⟨rfl, fun b4 w4 _ sm => ?_⟩
      have st := sm rfl
      rw [hw] at st
      refine ⟨n.toNat - (i + 1), by omega, i + 1, (o0 :: L0) ++ [o], t1, rfl, by omega, by simp; omega, ?_, st.conv ?_ ?_⟩
      · rw [show n.toNat - (i + 1) = m by omega]
        exact hr
      · rfl
      · simp only [objsR, List.cons_append, List.map_cons, List.map_nil]
        have := cells_app2 (o0 :: L0) o hrow.2
        simp only [List.length_cons] at this
        rw [this]
        simp
    · have h : ¬ (i : Int) < n := by simpa using h
      have he : n.toNat - i = 0 := by omega
      rw [he] at hr
      exact .leaf ⟨rfl, fun b4 w4 _ sm => rdr_fin (L := o0 :: L0) hr h0 (sm rfl)⟩
theorem rdr_call (t : ByteArray) {ρ : Emb} {w : World} {args' : Array Value} (wr : WRel ρ (mkH [rO t]).den w) (ra : VsRel ρ (dens [.ptr 0 (.c 0)]) args'.toList) : Calls Tryz.prog 16 args' w (RdEnd 60 ρ w (parQ t)) := by
  have h0 : ∀ i, i < 1 → ρ i ≠ .free := fun i hi => by
    obtain ⟨g1, h1, _⟩ := wr.cells (i := 0) (c := dens [.str false t]) (rw := true) rfl (.inr rfl)
    obtain rfl : i = 0 := by omega
    rw [h1]; simp
  refine calls_StM (E := E0) 1 rdrF_some rdrC_some rdrF_n (by decide) (by simp) wr ra fun bb st => ?_
  refine StM.preP sound0 TabHom.none 1000 10 h0 (by decide) rdrC_plans (by kernel_rfl) (rdr_pre t) st ?_
  generalize hq : parQ t = q
  have hb : ∀ e, e ≠ 0 → badR e = q → Holds (fun x => okE x.e = true ∧ ∀ b1 w1, StL ρ w 93 (((vselD ⟨[0, 2, 3], [.id 0, .of 2]⟩ ⟨[], []⟩ ⟨[], []⟩) x.e).s.zip x.vs) x.os b1 w1 → (startsId 1 0 ((vselD ⟨[0, 2, 3], [.id 0, .of 2]⟩ ⟨[], []⟩ ⟨[], []⟩) x.e).k = true → StM 1 ρ w 93 (((vselD ⟨[0, 2, 3], [.id 0, .of 2]⟩ ⟨[], []⟩ ⟨[], []⟩) x.e).s.zip x.vs) x.os b1 w1) → Exit.then ((postC 11 rdrC).wp E0.P (bodyPostD Tryz.prog rdrF (RdEnd 60 ρ w q))) (bodyPostD Tryz.prog rdrF (RdEnd 60 ρ w q)) x.e.den b1 w1) (panL e) :=
    fun e he hr => .leaf ⟨rfl, fun b1 w1 sl _ => rdr_pan he hr sl⟩
  refine num_holds hb hq fun x xf t hq => num_holds hb hq fun y yf t hq => num_holds hb hq fun d df t hq => count_holds hb hq fun c1 t _ _ hq => count_holds hb hq fun c2 t _ _ hq => count_holds hb hq fun c3 t _ _ hq => count_holds hb hq fun c4 t _ _ hq => count_holds hb hq fun c5 t _ _ hq =>
    count_holds hb hq fun n t hn _ hq => need_holds hb (by decide) hq fun hc hq => ?_
  exact .leaf ⟨rfl, fun b1 w1 _ sm => rdr_loop hn (by simpa using hc) hq h0 (sm rfl)⟩
end Go.Ev
end
section
set_option maxRecDepth 100000
namespace Go.Ev
open Go.Proofs Go.RowKit
/-! The table of the law HistoryRead. -/
noncomputable section
def hbS2 (g : SetD) (ops : List OpD) : SV := .tuple [.str false (bif checkR csV opV g ops == 0 then ⟨(encB g ops).toArray⟩ else ⟨#[]⟩), .int .i64 false (checkR csV opV g ops)]
def ER : Env := (((E4.add (one 7 (scrA hbV))).addP 16 (rdA 60 parQ)).addR 15 (rcA 60)).addQ 15 2
def SRd : STab := addS (oneRec 15 (rcS 60)) (addS (onePan 16 (rdS 60 parQ)) (addS (oneSym 7 (scrSym hbS2)) S4))
end
theorem hbS2_den (g : SetD) (ops : List OpD) : (hbS2 g ops).den = hbV g ops := by
  unfold hbV
  split
  · rename_i h
    simp [hbS2, SV.den, dens, h]
  · rename_i h
    have : (checkR csV opV g ops == 0) = false := by simpa using h
    simp [hbS2, SV.den, dens, this]
theorem rc_known : ∃ fn, Tryz.prog.funcs[15]? = some fn ∧ fn.body.isSome = true := ⟨rcF, rcF_some, by rw [rcC_some]; rfl⟩
theorem soundR : Sound ER := (((sound4.add tab_hb).addP (rd_tabP fun t _ _ _ wr ra => rdr_call t wr ra)).addR ⟨rc_known, rc_tabR fun g m n _ _ _ wr ra => rcd g m n wr ra⟩).addQ quietR
theorem thomR : TabHom ER SRd := (((thom4.add (scr_hom hbS2_den)).addP (by kernel_rfl) rd_hom).addR rc_hom).addQ
end Go.Ev
end
section
set_option maxRecDepth 100000
namespace Go.Ev
open Go.Proofs Go.RowKit Go.IntWalk
/-! What is read is what is written. -/
def numL (l : List UInt8) : Nat := l.foldl (fun a b => a * 256 + b.toNat) 0
theorem numL_snoc (l : List UInt8) (b : UInt8) : numL (l ++ [b]) = numL l * 256 + b.toNat := by simp [numL]
theorem numL_lt : ∀ (n : Nat) (l : List UInt8), l.length = n → numL l < 256 ^ n
  | 0, l, h => by
    rw [List.length_eq_zero_iff] at h
    subst h
    decide
  | n + 1, l, h => by
    have hne : l ≠ [] := by intro h0; subst h0; cases h
    have hl := List.dropLast_concat_getLast hne
    rw [← hl, numL_snoc]
    have := numL_lt n l.dropLast (by simp [h])
    have hb := (l.getLast hne).toNat_lt
    rw [Nat.pow_succ]
    omega
theorem or_num (a b : Nat) (hb : b < 256) (ha : a < 72057594037927936) : or64 (shl8 (a : Int)) (IntKind.u64.wrap (b : Int)) = ((a * 256 + b : Nat) : Int) := by
  have h1 : shl8 (a : Int) = ((256 * a : Nat) : Int) := by
    show IntKind.u64.wrap ((a : Int) * 2 ^ min (Int.toNat (8 : Int)) IntKind.u64.bits) = _
    rw [p8, u64_mod]
    omega
  have h2 : IntKind.u64.wrap (b : Int) = ((b : Nat) : Int) := by rw [u64_mod]; omega
  rw [h1, h2]
  show IntKind.u64.wrap (((BitVec.ofInt 64 ((256 * a : Nat) : Int) ||| BitVec.ofInt 64 ((b : Nat) : Int)).toNat : Nat) : Int) = _
  have h3 : (BitVec.ofInt 64 ((256 * a : Nat) : Int) ||| BitVec.ofInt 64 ((b : Nat) : Int)).toNat = 256 * a + b := by
    rw [BitVec.toNat_or, BitVec.toNat_ofInt, BitVec.toNat_ofInt]
    have e1 : ((((256 * a : Nat) : Int)) % ((2 ^ 64 : Nat) : Int)).toNat = 256 * a := by
      have : ((2 ^ 64 : Nat) : Int) = 18446744073709551616 := by decide
      rw [this]
      omega
    have e2 : ((((b : Nat) : Int)) % ((2 ^ 64 : Nat) : Int)).toNat = b := by
      have : ((2 ^ 64 : Nat) : Int) = 18446744073709551616 := by decide
      rw [this]
      omega
    rw [e1, e2]
    have := Nat.two_pow_add_eq_or_of_lt (i := 8) (b := b) (by omega) a
    rw [show (2 : Nat) ^ 8 = 256 by decide] at this
    exact this.symm
  rw [h3, u64_mod]
  omega
theorem takeV_num (t : ByteArray) : ∀ n, n ≤ 8 → n ≤ t.data.toList.length → takeV t n = (numL (t.data.toList.take n) : Int)
  | 0, _, _ => rfl
  | n + 1, h8, hs => by
    have ih := takeV_num t n (by omega) (by omega)
    show or64 (shl8 (takeV t n)) (IntKind.u64.wrap (t.data.toList.getD (0 + n) 0).toNat) = _
    have hlt : n < t.data.toList.length := by omega
    have ha := numL_lt n (t.data.toList.take n) (by rw [List.length_take]; omega)
    have ha2 : 256 ^ n ≤ 256 ^ 7 := Nat.pow_le_pow_right (by decide) (by omega)
    have ha3 : (256 : Nat) ^ 7 = 72057594037927936 := by decide
    have e : t.data.toList.getD (0 + n) 0 = t.data.toList[n] := by rw [Nat.zero_add, List.getD_eq_getElem?_getD, List.getElem?_eq_getElem hlt]; rfl
    rw [e, ih, or_num _ _ (UInt8.toNat_lt _) (by omega), List.take_succ_eq_append_getElem hlt, numL_snoc]
theorem drB_list (t : ByteArray) (n : Nat) (h : n ≤ t.size) : t.data.toList = t.data.toList.take n ++ (drB n t).data.toList := by
  have hs : t.size = t.data.toList.length := by rw [Array.length_toList]; rfl
  have : (drB n t).data.toList = t.data.toList.drop n := by
    show (t.extract n t.size).data.toList = _
    rw [ByteArray.data_extract, Array.toList_extract]
    simp only [List.extract_eq_take_drop]
    rw [List.take_of_length_le (by rw [List.length_drop]; omega)]
  rw [this, List.take_append_drop]
theorem ex0_list (t : ByteArray) (n : Nat) : (t.extract 0 n).data.toList = t.data.toList.take n := by
  rw [ByteArray.data_extract, Array.toList_extract]
  simp
theorem u8_nat (b : UInt8) (x : Int) (h : x = (b.toNat : Int)) : u8 (IntKind.u8.wrap x) = b := by
  subst h
  rw [u8_mod]
  have hb := b.toNat_lt
  show UInt8.ofNat (((b.toNat : Int) % 256).toNat) = b
  rw [show (((b.toNat : Int) % 256).toNat) = b.toNat by omega]
  simp
theorem be4_num (l : List UInt8) (h : l.length = 4) : (be4 (IntKind.u64.wrap (IntKind.i64.wrap (numL l : Int)))).map u8 = l := by
  match l, h with
  | [a, b, c, d], _ =>
    have ha := a.toNat_lt
    have hb := b.toNat_lt
    have hc := c.toNat_lt
    have hd := d.toNat_lt
    have hn : numL [a, b, c, d] = ((a.toNat * 256 + b.toNat) * 256 + c.toNat) * 256 + d.toNat := by simp [numL]
    rw [hn]
    rw [i64_in _ ⟨by omega, by omega⟩, u64_in _ ⟨by omega, by omega⟩]
    simp only [be4, byteV, List.map_cons, List.map_nil, p24, p16, p8, p0, fd _ _ (by decide : (0 : Int) ≤ 16777216), fd _ _ (by decide : (0 : Int) ≤ 65536), fd _ _ (by decide : (0 : Int) ≤ 256), fd _ _ (by decide : (0 : Int) ≤ 1)]
    have k : ∀ (x : Int) (z : UInt8), x % 256 = z.toNat → u8 (IntKind.u8.wrap x) = z := fun x z hz => by
      have := u8_nat z (x % 256) hz
      rw [u8_mod, show x % 256 % 256 = x % 256 by omega] at this
      rw [u8_mod]
      exact this
    rw [k _ a (by omega), k _ b (by omega), k _ c (by omega), k _ d (by omega)]
theorem be8_num (l : List UInt8) (h : l.length = 8) : (be8 (IntKind.u64.wrap (IntKind.i64.wrap (numL l : Int)))).map u8 = l := by
  match l, h with
  | [a, b, c, d, a1, b1, c1, d1], _ =>
    have ha := a.toNat_lt
    have hb := b.toNat_lt
    have hc := c.toNat_lt
    have hd := d.toNat_lt
    have ha1 := a1.toNat_lt
    have hb1 := b1.toNat_lt
    have hc1 := c1.toNat_lt
    have hd1 := d1.toNat_lt
    have hn : numL [a, b, c, d, a1, b1, c1, d1] = ((((((a.toNat * 256 + b.toNat) * 256 + c.toNat) * 256 + d.toNat) * 256 + a1.toNat) * 256 + b1.toNat) * 256 + c1.toNat) * 256 + d1.toNat := by simp [numL]
    rw [hn]
    generalize hx : ((((((((a.toNat * 256 + b.toNat) * 256 + c.toNat) * 256 + d.toNat) * 256 + a1.toNat) * 256 + b1.toNat) * 256 + c1.toNat) * 256 + d1.toNat : Nat) : Int) = x
    have hw : IntKind.u64.wrap (IntKind.i64.wrap x) = x := by
      rw [u64_mod, IntKind.wrap_i64]
      omega
    rw [hw]
    simp only [be8, byteV, List.map_cons, List.map_nil, p56, p48, p40, p32, p24, p16, p8, p0, fd _ _ (by decide : (0 : Int) ≤ 72057594037927936), fd _ _ (by decide : (0 : Int) ≤ 281474976710656), fd _ _ (by decide : (0 : Int) ≤ 1099511627776), fd _ _ (by decide : (0 : Int) ≤ 4294967296), fd _ _ (by decide : (0 : Int) ≤ 16777216), fd _ _ (by decide : (0 : Int) ≤ 65536), fd _ _ (by decide : (0 : Int) ≤ 256), fd _ _ (by decide : (0 : Int) ≤ 1)]
    have k : ∀ (x : Int) (z : UInt8), x % 256 = z.toNat → u8 (IntKind.u8.wrap x) = z := fun x z hz => by
      have := u8_nat z (x % 256) hz
      rw [u8_mod, show x % 256 % 256 = x % 256 by omega] at this
      rw [u8_mod]
      exact this
    rw [k _ a (by omega), k _ b (by omega), k _ c (by omega), k _ d (by omega), k _ a1 (by omega), k _ b1 (by omega), k _ c1 (by omega), k _ d1 (by omega)]
section
variable {g : SetD} {ops : List OpD}
theorem needC_ok {c : Bool} {e : Int} {k : ParR} (he : e ≠ 0) (h : needC c e badR k = (0, g, ops)) : c = true ∧ k = (0, g, ops) := by
  unfold needC at h
  cases c with
  | true => exact ⟨rfl, by simpa using h⟩
  | false =>
    simp only [Bool.false_eq_true, if_false, badR, Prod.mk.injEq] at h
    exact absurd h.1 he
theorem takeC_ok {t : ByteArray} {n : Nat} {k : Int → ByteArray → ParR} (h8 : n ≤ 8) (h : takeC t n badR k = (0, g, ops)) : ∃ l, l.length = n ∧ t.data.toList = l ++ (drB n t).data.toList ∧ takeV t n = (numL l : Int) ∧ k (takeV t n) (drB n t) = (0, g, ops) := by
  obtain ⟨h1, h2⟩ := needC_ok (by decide) h
  have h1 : n ≤ t.size := by simpa using h1
  have hs : t.size = t.data.toList.length := by rw [Array.length_toList]; rfl
  exact ⟨t.data.toList.take n, by rw [List.length_take]; omega, drB_list t n h1, takeV_num t n h8 (by omega), h2⟩
theorem countC_ok {t : ByteArray} {k : Int → ByteArray → ParR} (h : countC t badR k = (0, g, ops)) : ∃ v t1, 0 ≤ v ∧ v ≤ 2147483647 ∧ t.data.toList = (be4 (IntKind.u64.wrap v)).map u8 ++ t1.data.toList ∧ k v t1 = (0, g, ops) := by
  obtain ⟨l, h1, h2, h3, h4⟩ := takeC_ok (by decide) h
  obtain ⟨h5, h6⟩ := needC_ok (by decide) h4
  have h5 : takeV t 4 ≤ 2147483647 := by simpa using h5
  refine ⟨_, drB 4 t, ?_, ?_, ?_, h6⟩
  · rw [i64_in _ ⟨by omega, by omega⟩]; omega
  · rw [i64_in _ ⟨by omega, by omega⟩]; omega
  · rw [h3, be4_num l h1]; exact h2
theorem numbC_ok {t : ByteArray} {k : Int → Bool → ByteArray → ParR} (h : numbC t badR k = (0, g, ops)) : ∃ v f t1, t.data.toList = (be8 (IntKind.u64.wrap v) ++ [fl f]).map u8 ++ t1.data.toList ∧ k v f t1 = (0, g, ops) := by
  obtain ⟨l, h1, h2, h3, h4⟩ := takeC_ok (by decide) h
  obtain ⟨_, h6⟩ := needC_ok (by decide) h4
  obtain ⟨l2, k1, k2, k3, k4⟩ := takeC_ok (by decide) h6
  obtain ⟨k5, k6⟩ := needC_ok (by decide) k4
  have k5 : takeV (drB 8 t) 1 ≤ 1 := by simpa using k5
  refine ⟨_, _, drB 1 (drB 8 t), ?_, k6⟩
  rw [h2, k2, h3, List.map_append, be8_num l h1]
  match l2, k1 with
  | [z], _ =>
    have hz : numL [z] = z.toNat := by simp [numL]
    rw [k3, hz] at k5 ⊢
    have e : fl (((z.toNat : Nat) : Int) == 1) = ((z.toNat : Nat) : Int) := by
      by_cases h9 : z.toNat = 1
      · rw [h9]; rfl
      · have : z.toNat = 0 := by omega
        rw [this]; rfl
    rw [e]
    have : u8 ((z.toNat : Nat) : Int) = z := by
      show UInt8.ofNat z.toNat = z
      simp
    simp
theorem opC_ok {t : ByteArray} {k : OpD → ByteArray → ParR} (h : opC t badR k = (0, g, ops)) : ∃ o t1, t.data.toList = opB o ++ t1.data.toList ∧ k o t1 = (0, g, ops) := by
  obtain ⟨l, h1, h2, h3, h4⟩ := takeC_ok (by decide) h
  obtain ⟨l2, k1, k2, k3, k4⟩ := takeC_ok (by decide) h4
  match l, h1 with
  | [a], _ =>
  match l2, k1 with
  | [b], _ =>
    have ea : IntKind.i64.wrap (takeV t 1) = (a.toNat : Int) := by
      have ha := a.toNat_lt
      rw [h3, show numL [a] = a.toNat by simp [numL], i64_in _ ⟨by omega, by omega⟩]
    have eb : IntKind.i64.wrap (takeV (drB 1 t) 1) = (b.toNat : Int) := by
      have hb := b.toNat_lt
      rw [k3, show numL [b] = b.toNat by simp [numL], i64_in _ ⟨by omega, by omega⟩]
    rw [h2, k2]
    by_cases h5 : IntKind.i64.wrap (takeV t 1) = 3
    · rw [if_pos h5] at k4
      obtain ⟨n, t3, n0, n1, n2, n3⟩ := countC_ok k4
      obtain ⟨_, n4⟩ := needC_ok (by decide) n3
      obtain ⟨n5, n6⟩ := needC_ok (by decide) n4
      have n5 : n ≤ (t3.size : Int) := by simpa using n5
      refine ⟨_, _, ?_, n6⟩
      have hs : t3.size = t3.data.toList.length := by rw [Array.length_toList]; rfl
      have hx := ex0_list t3 n.toNat
      have hsz : ((t3.extract 0 n.toNat).size : Int) = n := by
        have : (t3.extract 0 n.toNat).size = (t3.extract 0 n.toNat).data.toList.length := by rw [Array.length_toList]; rfl
        rw [this, hx, List.length_take]
        omega
      unfold opB
      simp only [if_pos h5]
      rw [u8_nat a _ ea, u8_nat b _ eb, hsz, hx, n2]
      conv => lhs; rw [drB_list t3 n.toNat (by omega)]
      simp only [List.append_assoc, List.cons_append, List.nil_append]
    · rw [if_neg h5] at k4
      by_cases h6 : IntKind.i64.wrap (takeV t 1) = 4
      · rw [if_pos h6] at k4
        obtain ⟨n, t3, n0, n1, n2, n3⟩ := countC_ok k4
        refine ⟨_, _, ?_, n3⟩
        unfold opB
        simp only [if_neg h5, if_pos h6]
        rw [u8_nat a _ ea, u8_nat b _ eb, n2]
        simp
      · rw [if_neg h6] at k4
        refine ⟨_, _, ?_, k4⟩
        unfold opB
        simp only [if_neg h5, if_neg h6]
        rw [u8_nat a _ ea, u8_nat b _ eb]
        simp
theorem opsR_ok {g0 : SetD} : ∀ (m : Nat) (L : List OpD) (t : ByteArray), opsR g0 m L t = (0, g, ops) → g = g0 ∧ ∃ l, ops = L ++ l ∧ l.length = m ∧ t.data.toList = l.flatMap opB
  | 0, L, t, h => by
    obtain ⟨h1, h2⟩ := needC_ok (by decide) h
    simp only [Prod.mk.injEq, true_and] at h2
    obtain ⟨rfl, rfl⟩ := h2
    have h1 : t.size = 0 := by simpa using h1
    have hs : t.size = t.data.toList.length := by rw [Array.length_toList]; rfl
    refine ⟨rfl, [], by simp, rfl, ?_⟩
    rw [List.flatMap_nil, ← List.length_eq_zero_iff]
    omega
  | m + 1, L, t, h => by
    obtain ⟨o, t1, h1, h2⟩ := opC_ok h
    obtain ⟨h3, l, h4, h5, h6⟩ := opsR_ok m (L ++ [o]) t1 h2
    exact ⟨h3, o :: l, by rw [h4]; simp, by simp [h5], by rw [h1, h6, List.flatMap_cons]⟩
end
theorem read_ok {b : ByteArray} {g : SetD} {ops : List OpD} (h : parQ b = (0, g, ops)) : ops.length ≤ 400 ∧ b.data.toList = encB g ops := by
  obtain ⟨x, xf, t1, a1, h⟩ := numbC_ok h
  obtain ⟨y, yf, t2, a2, h⟩ := numbC_ok h
  obtain ⟨d, df, t3, a3, h⟩ := numbC_ok h
  obtain ⟨c1, t4, _, _, a4, h⟩ := countC_ok h
  obtain ⟨c2, t5, _, _, a5, h⟩ := countC_ok h
  obtain ⟨c3, t6, _, _, a6, h⟩ := countC_ok h
  obtain ⟨c4, t7, _, _, a7, h⟩ := countC_ok h
  obtain ⟨c5, t8, _, _, a8, h⟩ := countC_ok h
  obtain ⟨n, t9, n0, _, a9, h⟩ := countC_ok h
  obtain ⟨n4, h⟩ := needC_ok (by decide) h
  have n4 : n ≤ 400 := by simpa using n4
  obtain ⟨rfl, l, e1, e2, e3⟩ := opsR_ok _ _ _ h
  simp only [List.nil_append] at e1
  subst e1
  have hn : (ops.length : Int) = n := by omega
  refine ⟨by omega, ?_⟩
  rw [a1, a2, a3, a4, a5, a6, a7, a8, a9, e3]
  unfold encB hdB hd27 enc4 l6
  rw [hn]
  simp only [List.flatMap_cons, List.flatMap_nil, List.map_append, List.append_assoc, List.append_nil]
/-! The law. -/
noncomputable section
abbrev ttT : Tree SEnd := .leaf (.returned (.bool true true))
abbrev ffT : Tree SEnd := .leaf (.returned (.bool true false))
def okT (g : SetD) (ops : List OpD) (b : ByteArray) : Tree SEnd := .node (checkR csV opV g ops == 0) (.node ((bif checkR csV opV g ops == 0 then (⟨(encB g ops).toArray⟩ : ByteArray) else noBytes).toList == b.toList) ttT ffT) ffT
def n1T (l : List OpD) (k : Tree SEnd) : Tree SEnd := .node ((Nat.div 0 4 + l.length).ble l.length) (.node (l.length.ble 70368744177664) k .fail) .fail
def rdT (g : SetD) (ops : List OpD) (b : ByteArray) (k : Tree SEnd → Tree SEnd) : Tree SEnd := .node (!(checkR csV opV g ops == 0)) (.node (checkR csV opV g ops != 0) ttT (okT zSet [] b)) (k (okT g ops b))
def readT (b : ByteArray) : Tree SEnd := .node (decide ((b.size : Int) > 1000)) ttT (.node ((parQ b).1 == 0)
  (.node (parQ b).2.2.isEmpty (rdT (parQ b).2.1 [] b id)
    (n1T (parQ b).2.2 (n1T (parQ b).2.2 (rdT (parQ b).2.1 (opsL (parQ b).2.2.length (fk (parQ b).2.2) (fs (parQ b).2.2) (fb (parQ b).2.2) (fn (parQ b).2.2)) b (n1T (parQ b).2.2)))))
  (.node ((parQ b).1 != 0) ttT (okT zSet [] b)))
end
theorem read_tree (b : ByteArray) : endT (evalCallS ER SRd 1000 3 [.str false b] SH.empty) = readT b := by kernel_rfl
theorem tt_holds : Holds (fun x => SEnd.den x = .returned (.bool true)) ttT := .leaf rfl
theorem ok_holds {g : SetD} {ops : List OpD} {b : ByteArray} (hc : checkR csV opV g ops = 0) (hb : b.data.toList = encB g ops) : Holds (fun x => SEnd.den x = .returned (.bool true)) (okT g ops b) := by
  have h0 : (checkR csV opV g ops == 0) = true := by rw [hc]; rfl
  refine Holds.yesB h0 (Holds.yesB ?_ tt_holds)
  rw [h0, cond_true, ← hb]
  show (b.toList == b.toList) = true
  exact BEq.rfl
theorem n1_holds {l : List OpD} {k : Tree SEnd} (h : l.length ≤ 400) (hk : Holds (fun x => SEnd.den x = .returned (.bool true)) k) : Holds (fun x => SEnd.den x = .returned (.bool true)) (n1T l k) :=
  Holds.yesB (bleR _) (Holds.yesB (Nat.ble_eq_true_of_le (by omega)) hk)
theorem rd_holds {g : SetD} {ops : List OpD} {b : ByteArray} {k : Tree SEnd → Tree SEnd} (hb : b.data.toList = encB g ops) (hk : ∀ t, Holds (fun x => SEnd.den x = .returned (.bool true)) t → Holds (fun x => SEnd.den x = .returned (.bool true)) (k t)) : Holds (fun x => SEnd.den x = .returned (.bool true)) (rdT g ops b k) := by
  refine Holds.node (fun h => Holds.yesB ?_ tt_holds) fun h => hk _ (ok_holds (by simpa using h) hb)
  simpa using h
theorem read_holds (b : ByteArray) : Holds (fun x => SEnd.den x = .returned (.bool true)) (readT b) := by
  refine Holds.node (fun _ => tt_holds) fun _ => Holds.node (fun h => ?_) fun h => Holds.yesB (by simpa using h) tt_holds
  have h : (parQ b).1 = 0 := by simpa using h
  obtain ⟨hl, hb⟩ := read_ok (b := b) (g := (parQ b).2.1) (ops := (parQ b).2.2) (by rw [← h])
  refine Holds.node (fun h2 => ?_) fun _ => n1_holds hl (n1_holds hl (rd_holds ?_ fun t ht => n1_holds hl ht))
  · have h2 : (parQ b).2.2 = [] := by simpa using h2
    rw [h2] at hb
    exact rd_holds hb fun t ht => ht
  · rw [opsL_get]
    exact hb
theorem read_true (b : ByteArray) (w : World) : Calls Tryz.prog 3 #[.string b] w fun e w' => e = .returned (.bool true) ∧ Below w.heap.size w w' :=
  scal_of_tree (sargs := [.str false b]) soundR thomR 1000 (read_tree b) rfl rfl (read_holds b) w
end Go.Ev
end

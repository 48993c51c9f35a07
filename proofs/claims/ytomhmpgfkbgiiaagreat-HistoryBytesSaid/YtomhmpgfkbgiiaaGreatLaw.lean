import Derived.Test.YtomhmpgfkbgiiaaGreatFactL
import Derived.Test.YtomhmpgfkbgiiaaGreatSpA
import Derived.Test.YtomhmpgfkbgiiaaGreatSeB
section
set_option maxRecDepth 100000
namespace Go.Ev
open Go.Proofs Go.RowKit
theorem tree_cmp (a : Int) (af : Bool) (b : Int) (bf : Bool) : endT (evalCallS E0 noS 1000 69 [.agg [.int .i64 false a, .bool false af], .agg [.int .i64 false b, .bool false bf]] SH.empty) = T_cmp a af b bf := by kernel_rfl
theorem tab_cmp : TabOK Tryz.prog 69 (scalA (specOf sCmp)) := scal_tab' fun sargs v h => by
  unfold sCmp at h
  split at h
  · rename_i _ a _ af _ b _ bf
    cases h
    refine ⟨rfl, rfl, fun w => scal_of_tree sound0 TabHom.none 1000 (sargs := [.agg [.int .i64 false a, .bool false af], .agg [.int .i64 false b, .bool false bf]]) (tree_cmp a af b bf) rfl rfl (resInt_eq ?_) w⟩
    unfold T_cmp
    repeat' (first | exact .leaf ⟨_, _, rfl⟩ | refine .node (fun _ => ?_) fun _ => ?_)
  · cases h
theorem hom_cmp : ∀ args id, Hom HV (scalS sCmp args id) (scalA (specOf sCmp) (dens args) id) := scal_hom fun args v h => by
  unfold sCmp at h
  split at h
  · cases h; rfl
  · cases h

theorem tree_reach (x : Int) (xf : Bool) (y : Int) (yf : Bool) : endT (evalCallS E0 noS 1000 71 [.int .i64 true 64, .sl 0 (.c 0) ⟨true, 1⟩ 4] (mkH [.cells [.int .i64 false x, .bool false xf, .int .i64 false y, .bool false yf] false])) = T_reach x xf y yf := by kernel_rfl
theorem tab_reach : TabOK Tryz.prog 71 (rowA 4 sReach) := row_tab fun a l n v h hl hp1 hp2 ρ w args' hro wr ra => by
  unfold sReach at h
  split at h
  · rename_i _ m _ x _ xf _ y _ yf
    cases hm : decide (m = 64) with
    | false => rw [hm] at h; cases h
    | true =>
      rw [hm] at h
      cases h
      have hm : m = 64 := by simpa using hm
      subst hm
      have hn : n = 1 := by simp at hl; omega
      subst hn
      have hh : Holds (fun x => ∃ l b, x = .returned (.bool l b)) (T_reach x xf y yf) := by
        unfold T_reach
        repeat' (first | exact .leaf ⟨_, _, rfl⟩ | refine .node (fun _ => ?_) fun _ => ?_)
      exact call_of_tree sound0 TabHom.none 1000 (tree_reach x xf y yf) hro (resBool_eq hh) rfl wr ra
  · cases h
theorem hom_reach : ∀ args id, Hom HV (rowSym 4 sReach args id) (rowA 4 sReach (dens args) id) := row_hom fun a l v h => by
  unfold sReach at h
  split at h
  · rename_i _ m _ x _ xf _ y _ yf
    cases hm : decide (m = 64) with
    | false => rw [hm] at h; cases h
    | true =>
      rw [hm] at h
      cases h
      refine ⟨.bool false (reachV x xf y yf), ?_, rfl⟩
      show (bif decide (m = 64) then _ else _) = _
      rw [hm]
      rfl
  · cases h

noncomputable def EL1 : Env := (E0.add (one 69 (scalA (specOf sCmp)))).add (one 71 (rowA 4 sReach))
noncomputable def SL1 : STab := addS (oneSym 71 (rowSym 4 sReach)) (addS (oneSym 69 (scalS sCmp)) noS)
theorem soundL1 : Sound EL1 := (sound0.add tab_cmp).add tab_reach
theorem thomL1 : TabHom EL1 SL1 := (TabHom.none.add hom_cmp).add hom_reach
end Go.Ev
end
section
set_option maxRecDepth 100000
namespace Go.Ev
open Go.Proofs Go.RowKit
abbrev setArg (g : SetD) : List SV := [.agg g.sv]
theorem tree_cs (g : SetD) : endT (evalCallS EL1 SL1 1000 33 (setArg g) SH.empty) = T_cs g.gx g.gxf g.gy g.gyf g.dt g.dtf g.most g.rounds g.sess g.staged g.queue := by kernel_rfl
theorem tree_r9 (g : SetD) : endT (evalCallS EL1 SL1 1000 36 (setArg g) SH.empty) = T_r9 g.gx g.gxf g.gy g.gyf g.dt g.dtf g.most g.rounds g.sess g.staged g.queue := by kernel_rfl
theorem tree_op (o : OpD) : endT (evalCallS EL1 SL1 1000 34 [.agg [.int .i64 false o.k, .int .i64 false o.s, .str false o.b, .int .i64 false o.n]] SH.empty) = T_op o.k o.s o.b o.n := by kernel_rfl
theorem tree_one (o : OpD) : endT (evalCallS EL1 SL1 1000 37 [.agg [.int .i64 false o.k, .int .i64 false o.s, .str false o.b, .int .i64 false o.n]] SH.empty) = T_one o.k o.s o.b o.n := by kernel_rfl

theorem sCs_hom (F : SetD → Int) : ∀ args id, Hom HV (scalS (sCs F) args id) (scalA (specOf (sCs F)) (dens args) id) := scal_hom fun args v h => by
  unfold sCs at h
  split at h
  · cases h; rfl
  · cases h
theorem sOpE_hom (F : OpD → Int) : ∀ args id, Hom HV (scalS (sOpE F) args id) (scalA (specOf (sOpE F)) (dens args) id) := scal_hom fun args v h => by
  unfold sOpE at h
  split at h
  · rename_i l1 k l2 s b l3 n
    cases hb : strOf b with
    | none => rw [hb] at h; cases h
    | some p =>
      obtain ⟨l, t⟩ := p
      rw [hb] at h
      cases h
      have e : dens [.agg [.int .i64 l1 k, .int .i64 l2 s, b, .int .i64 l3 n]] = [.agg #[.int .i64 k, .int .i64 s, .string t, .int .i64 n]] := by simp only [dens, SV.den, strOf_den hb]
      rw [e]
      rfl
  · cases h
theorem sCs_tab {f : FuncId} {F : SetD → Int} (h : ∀ g w, Calls Tryz.prog f (dens (setArg g)).toArray w fun e w' => e = .returned (.int .i64 (F g)) ∧ Below w.heap.size w w') : TabOK Tryz.prog f (scalA (specOf (sCs F))) := scal_tab' fun sargs v hs => by
  unfold sCs at hs
  split at hs
  · rename_i _ a _ af _ b _ bf _ c _ cf _ m _ r _ s _ t _ q
    cases hs
    exact ⟨rfl, rfl, fun w => h ⟨a, af, b, bf, c, cf, m, r, s, t, q⟩ w⟩
  · cases hs
theorem sOpE_tab {f : FuncId} {F : OpD → Int} (h : ∀ o w, Calls Tryz.prog f (dens [.agg [.int .i64 false o.k, .int .i64 false o.s, .str false o.b, .int .i64 false o.n]]).toArray w fun e w' => e = .returned (.int .i64 (F o)) ∧ Below w.heap.size w w') : TabOK Tryz.prog f (scalA (specOf (sOpE F))) := scal_tab' fun sargs v hs => by
  unfold sOpE at hs
  split at hs
  · rename_i l1 k l2 s b l3 n
    cases hb : strOf b with
    | none => rw [hb] at hs; cases hs
    | some p =>
      obtain ⟨l, t⟩ := p
      rw [hb] at hs
      cases hs
      have e : dens [.agg [.int .i64 l1 k, .int .i64 l2 s, b, .int .i64 l3 n]] = [.agg #[.int .i64 k, .int .i64 s, .string t, .int .i64 n]] := by simp only [dens, SV.den, strOf_den hb]
      rw [e]
      exact ⟨rfl, rfl, fun w => h ⟨k, s, t, n⟩ w⟩
  · cases hs
theorem tab_cs : TabOK Tryz.prog 33 (scalA (specOf (sCs csV))) := sCs_tab fun g w => scal_of_tree soundL1 thomL1 1000 (tree_cs g) rfl rfl (resInt_eq (by
  unfold T_cs
  repeat' (first | exact .leaf ⟨_, _, rfl⟩ | refine .node (fun _ => ?_) fun _ => ?_))) w
theorem tab_r9 : TabOK Tryz.prog 36 (scalA (specOf (sCs r9V))) := sCs_tab fun g w => scal_of_tree soundL1 thomL1 1000 (tree_r9 g) rfl rfl (resInt_eq (by
  unfold T_r9
  repeat' (first | exact .leaf ⟨_, _, rfl⟩ | refine .node (fun _ => ?_) fun _ => ?_))) w
theorem tab_op : TabOK Tryz.prog 34 (scalA (specOf (sOpE opV))) := sOpE_tab fun o w => scal_of_tree soundL1 thomL1 1000 (tree_op o) rfl rfl (resInt_eq (by
  unfold T_op
  repeat' (first | exact .leaf ⟨_, _, rfl⟩ | refine .node (fun _ => ?_) fun _ => ?_))) w
theorem tab_one : TabOK Tryz.prog 37 (scalA (specOf (sOpE oneV))) := sOpE_tab fun o w => scal_of_tree soundL1 thomL1 1000 (tree_one o) rfl rfl (resInt_eq (by
  unfold T_one
  repeat' (first | exact .leaf ⟨_, _, rfl⟩ | refine .node (fun _ => ?_) fun _ => ?_))) w
noncomputable def E2 : Env := (((EL1.add (one 33 (scalA (specOf (sCs csV))))).add (one 36 (scalA (specOf (sCs r9V))))).add (one 34 (scalA (specOf (sOpE opV))))).add (one 37 (scalA (specOf (sOpE oneV))))
noncomputable def S2 : STab := addS (oneSym 37 (scalS (sOpE oneV))) (addS (oneSym 34 (scalS (sOpE opV))) (addS (oneSym 36 (scalS (sCs r9V))) (addS (oneSym 33 (scalS (sCs csV))) SL1)))
theorem sound2 : Sound E2 := (((soundL1.add tab_cs).add tab_r9).add tab_op).add tab_one
theorem thom2 : TabHom E2 S2 := (((thomL1.add (sCs_hom csV)).add (sCs_hom r9V)).add (sOpE_hom opV)).add (sOpE_hom oneV)
end Go.Ev
end
section
set_option maxRecDepth 100000
namespace Go.Ev
open Go.Proofs Go.RowKit
noncomputable def ckC : Code := match Tryz.prog.funcs[18]? with | some fn => fn.body.getD .skip | none => .skip
noncomputable def ckF : Func := match Tryz.prog.funcs[18]? with | some fn => fn | none => default
theorem ckF_some : Tryz.prog.funcs[18]? = some ckF := by kernel_rfl
theorem ckC_some : ckF.body = some ckC := by kernel_rfl
theorem ckF_n : ckF.ntmps = 52 := by kernel_rfl
theorem ckC_plans : plansIn ckC = true := by kernel_rfl
noncomputable abbrev ckO (g : SetD) (len : Nat) (k s : Nat → Int) (b : Nat → ByteArray) (n : Nat → Int) : List SObj := [opsO len k s b n, .cells (g.sv ++ [.sl 0 (.c 0) ⟨false, len⟩ 4]) true]
set_option maxRecDepth 100000 in
theorem check_arr (g : SetD) (len : Nat) (k s : Nat → Int) (b : Nat → ByteArray) (n : Nat → Int) {ρ0 : Emb} {w : World} {args' : Array Value} (hro : ∀ i g, ρ0 i = .img g → g.rw = false)
    (wr : WRel ρ0 (mkH [opsO len k s b n]).den w) (ra : VsRel ρ0 (dens [.agg (g.sv ++ [slO len])]) args'.toList) :
    Calls E2.P 18 args' w fun e w' => e = .returned (.int .i64 (checkR csV opV g (opsL len k s b n))) ∧ Below w.heap.size w w' := by
  refine calls_StL ckF_some ckC_some ckF_n (by decide) (by simp) wr ra fun bb st => ?_
  -- the end of each way
  have fin : ∀ (v : Int) (l : Bool) b1 w1, StL ρ0 w 52 [(2, .int .i64 l v)] [] b1 w1 → v = checkR csV opV g (opsL len k s b n) → Leaves E2.P ckF b1.tmps (fun e w' => e = .returned (.int .i64 (checkR csV opV g (opsL len k s b n))) ∧ Below w.heap.size w w') b1.defers .returning w1 := by
    intro v l b1 w1 st hv
    refine StL.finish (vs := [.int .i64 l v]) (fun j => by kernel_rfl) st fun ρ v' rv _ fr => ?_
    have := plainR_eq (v := .int .i64 v) rfl rv
    exact ⟨by rw [this, hv], below_of_ro hro fr⟩
  refine StL.pre sound2 thom2 1000 3 (V := vsel ⟨[1, 2, 4], [0, 2]⟩ ⟨[2], []⟩ ⟨[], []⟩) (T := .node (csV g != 0) (.leaf ⟨.ret, [.int .i64 false (csV g)], []⟩) (.node (decide ((len : Int) > 400)) (.leaf ⟨.ret, [.int .i64 true 6], []⟩)
    (.leaf ⟨.normal, [.ptr 1 (.c 0), .int .i64 true 0, .int .i64 true 0], ckO g len k s b n⟩)))
    (by decide) (vok _ _ _ (by decide) (by decide) (by decide)) ckC_plans (by kernel_rfl) (fun j => by kernel_rfl) st ?_
  refine Holds.node (fun h0 => ?_) fun h0 => Holds.node (fun h1 => ?_) fun h1 => ?_
  · exact .leaf ⟨rfl, fun b1 w1 st => fin _ _ b1 w1 st (by unfold checkR; rw [if_neg (by simpa using h0)])⟩
  · exact .leaf ⟨rfl, fun b1 w1 st => fin _ _ b1 w1 st (by unfold checkR; rw [if_pos (by simpa using h0), if_pos (by rw [opsL_length]; simp at h1; omega)])⟩
  have hcs : csV g = 0 := by simpa using h0
  have hl : len ≤ 400 := by simp at h1; omega
  have hres : checkR csV opV g (opsL len k s b n) = if lensR 0 (opsL len k s b n) = true then 6 else firstE opV (opsL len k s b n) := by
    unfold checkR
    rw [if_pos hcs, if_neg (by rw [opsL_length]; omega)]
  refine .leaf ⟨rfl, fun b1 w1 st => ?_⟩
  show (postC 4 ckC).wp E2.P (bodyPostD E2.P ckF _) b1 w1
  -- the first loop
  refine wp_seqP (by kernel_rfl) ?_
  refine wp_seqP (by kernel_rfl) ?_
  refine StL.piece sound2 thom2 1000 (V := vsel ⟨[1, 2, 4, 21, 22, 23], [0, 1]⟩ ⟨[2], []⟩ ⟨[], []⟩) (T := .leaf ⟨.normal, [.ptr 1 (.c 0), .int .i64 true 0, .int .i64 true 0, slO len, .int .i64 false len, .int .i64 true 0], ckO g len k s b n⟩)
    (by decide) (vok _ _ _ (by decide) (by decide) (by decide)) (by kernel_rfl) (fun j => by kernel_rfl) st ?_
  refine Holds.leaf ⟨rfl, fun b2 w2 st => ?_⟩
  show Code.wp E2.P (seqR (seqL (postC 4 ckC))) _ b2 w2
  refine wp_blockP (by kernel_rfl) ?_
  refine wp_loopP (by kernel_rfl) (fun m x w' => ∃ (i : Nat) (acc : Int), m = len - i ∧ i ≤ len ∧ lensR 0 (opsL len k s b n) = lensR acc ((opsL len k s b n).drop i) ∧
    StL ρ0 w 52 ([1, 2, 4, 21, 22, 23].zip [.ptr 1 (.c 0), .int .i64 true 0, .int .i64 false acc, slO len, .int .i64 false len, .int .i64 false i]) (ckO g len k s b n) x w') ?_ ⟨0, 0, rfl, Nat.zero_le _, by simp, st.conv rfl rfl⟩
  rintro _ b3 w3 ⟨i, acc, rfl, hi, hacc, st⟩
  refine StL.piece sound2 thom2 1000 (V := vsel ⟨[1, 2, 4, 21, 22, 23], [0, 1]⟩ ⟨[2], []⟩ ⟨[1, 2], [0, 1]⟩) (T := .node (decide ((i : Int) < (len : Int))) (.node (decide ((0 : Int) ≤ (i : Int)) && (i : Int).toNat.blt len) (.node (i.blt len)
      (.node (decide (((b i).size : Int) > IntKind.i64.wrap (65536 - acc))) (.leaf ⟨.ret, [.int .i64 true 6], []⟩)
        (.leaf ⟨.normal, [.ptr 1 (.c 0), .int .i64 true 0, .int .i64 false (IntKind.i64.wrap (acc + ((b i).size : Int))), slO len, .int .i64 false len, .int .i64 false (IntKind.i64.wrap ((i : Int) + 1))], ckO g len k s b n⟩)) .fail) .fail)
      (.leaf ⟨.exit 0, [.ptr 1 (.c 0), .int .i64 true 0], ckO g len k s b n⟩))
    (by decide) (vok _ _ _ (by decide) (by decide) (by decide)) (by kernel_rfl) (fun j => by kernel_rfl) st ?_
  refine Holds.node (fun h2 => ?_) fun h2 => ?_
  · have hlt : i < len := by simpa using h2
    have hblt : i.blt len = true := blt_true hlt
    refine Holds.node (fun _ => Holds.node (fun _ => Holds.node (fun h3 => ?_) fun h3 => ?_) fun hf => absurd hf (by rw [hblt]; decide)) fun hf => absurd hf (by simp [hblt])
    · refine .leaf ⟨rfl, fun b4 w4 st => ?_⟩
      refine fin _ _ b4 w4 st ?_
      rw [hres, hacc, opsL_drop hlt]
      simp only [decide_eq_true_eq] at h3
      rw [lensR, if_pos h3, if_pos rfl]
    · refine .leaf ⟨rfl, fun b4 w4 st => ?_⟩
      simp only [decide_eq_false_iff_not] at h3
      refine ⟨len - (i + 1), by omega, i + 1, IntKind.i64.wrap (acc + ((b i).size : Int)), rfl, hlt, ?_, st.conv ?_ rfl⟩
      · rw [hacc, opsL_drop hlt, lensR, if_neg h3]
      · have hw : IntKind.i64.wrap ((i : Int) + 1) = ((i + 1 : Nat) : Int) := wrap64_small (n := i + 1) (by omega)
        simp only [dens, SV.den, hw]
  · have hge : i = len := by simp at h2; omega
    refine .leaf ⟨rfl, fun b4 w4 st => ?_⟩
    have hlen0 : lensR 0 (opsL len k s b n) = false := by
      rw [hacc, hge, List.drop_eq_nil_of_le (by rw [opsL_length]; exact Nat.le_refl _)]
      rfl
    have hres2 : checkR csV opV g (opsL len k s b n) = firstE opV (opsL len k s b n) := by rw [hres, hlen0]; rfl
    show Code.wp E2.P (seqR (postC 4 ckC)) _ b4 w4
    -- the second loop
    refine wp_seqP (by kernel_rfl) ?_
    refine wp_seqP (by kernel_rfl) ?_
    refine StL.piece sound2 thom2 1000 (V := vsel ⟨[1, 2, 40, 41, 42], [0, 1]⟩ ⟨[2], []⟩ ⟨[], []⟩) (T := .leaf ⟨.normal, [.ptr 1 (.c 0), .int .i64 true 0, slO len, .int .i64 false len, .int .i64 true 0], ckO g len k s b n⟩)
      (by decide) (vok _ _ _ (by decide) (by decide) (by decide)) (by kernel_rfl) (fun j => by kernel_rfl) st ?_
    refine Holds.leaf ⟨rfl, fun b5 w5 st => ?_⟩
    show Code.wp E2.P (seqR (seqL (seqR (postC 4 ckC)))) _ b5 w5
    refine wp_blockP (by kernel_rfl) ?_
    refine wp_loopP (by kernel_rfl) (fun m x w' => ∃ i : Nat, m = len - i ∧ i ≤ len ∧ firstE opV (opsL len k s b n) = firstE opV ((opsL len k s b n).drop i) ∧
      StL ρ0 w 52 ([1, 2, 40, 41, 42].zip [.ptr 1 (.c 0), .int .i64 true 0, slO len, .int .i64 false len, .int .i64 false i]) (ckO g len k s b n) x w') ?_ ⟨0, rfl, Nat.zero_le _, by simp, st.conv rfl rfl⟩
    rintro _ b6 w6 ⟨i, rfl, hi, hacc, st⟩
    refine StL.piece sound2 thom2 1000 (V := vsel ⟨[1, 2, 40, 41, 42], [0, 1]⟩ ⟨[2], []⟩ ⟨[1, 2], [0, 1]⟩) (T := .node (decide ((i : Int) < (len : Int))) (.node (decide ((0 : Int) ≤ (i : Int)) && (i : Int).toNat.blt len) (.node (i.blt len)
        (.node (opV ⟨k i, s i, b i, n i⟩ != 0) (.leaf ⟨.ret, [.int .i64 false (opV ⟨k i, s i, b i, n i⟩)], []⟩)
          (.leaf ⟨.normal, [.ptr 1 (.c 0), .int .i64 true 0, slO len, .int .i64 false len, .int .i64 false (IntKind.i64.wrap ((i : Int) + 1))], ckO g len k s b n⟩)) .fail) .fail)
        (.leaf ⟨.exit 2, [.ptr 1 (.c 0), .int .i64 true 0], ckO g len k s b n⟩))
      (by decide) (vok _ _ _ (by decide) (by decide) (by decide)) (by kernel_rfl) (fun j => by kernel_rfl) st ?_
    refine Holds.node (fun h2 => ?_) fun h2 => ?_
    · have hlt : i < len := by simpa using h2
      have hblt : i.blt len = true := blt_true hlt
      refine Holds.node (fun _ => Holds.node (fun _ => Holds.node (fun h3 => ?_) fun h3 => ?_) fun hf => absurd hf (by rw [hblt]; decide)) fun hf => absurd hf (by simp [hblt])
      · refine .leaf ⟨rfl, fun b7 w7 st => ?_⟩
        refine fin _ _ b7 w7 st ?_
        rw [hres2, hacc, opsL_drop hlt, firstE, if_neg (by simpa using h3)]
      · refine .leaf ⟨rfl, fun b7 w7 st => ?_⟩
        refine ⟨len - (i + 1), by omega, i + 1, rfl, hlt, ?_, st.conv ?_ rfl⟩
        · rw [hacc, opsL_drop hlt, firstE, if_pos (by simpa using h3)]
        · have hw : IntKind.i64.wrap ((i : Int) + 1) = ((i + 1 : Nat) : Int) := wrap64_small (n := i + 1) (by omega)
          simp only [dens, SV.den, hw]
    · have hge : i = len := by simp at h2; omega
      refine .leaf ⟨rfl, fun b7 w7 st => ?_⟩
      have hz : checkR csV opV g (opsL len k s b n) = 0 := by
        rw [hres2, hacc, hge, List.drop_eq_nil_of_le (by rw [opsL_length]; exact Nat.le_refl _)]
        rfl
      show Code.wp E2.P (seqR (seqR (postC 4 ckC))) _ b7 w7
      refine StL.piece sound2 thom2 1000 (V := vsel ⟨[], []⟩ ⟨[2], []⟩ ⟨[], []⟩) (T := .leaf ⟨.ret, [.int .i64 true 0], []⟩)
        (by decide) (vok _ _ _ (by decide) (by decide) (by decide)) (by kernel_rfl) (fun j => by kernel_rfl) st ?_
      exact Holds.leaf ⟨rfl, fun b8 w8 st => fin _ _ b8 w8 st hz.symm⟩

theorem check_nil (g : SetD) (w : World) : Calls Tryz.prog 18 (dens [scrS g nilO]).toArray w fun e w' => e = .returned (.int .i64 (checkR csV opV g [])) ∧ Below w.heap.size w w' := by
  have tree : endT (evalCallS E2 S2 1000 18 [scrS g nilO] SH.empty) = .node (csV g != 0) (.leaf (.returned (.int .i64 false (csV g)))) (.leaf (.returned (.int .i64 true 0))) := by kernel_rfl
  refine scal_of_tree sound2 thom2 1000 tree rfl rfl ?_ w
  refine Holds.node (fun h => .leaf ?_) fun h => .leaf ?_
  · unfold checkR
    rw [if_neg (by simpa using h)]
    rfl
  · unfold checkR
    rw [if_pos (by simpa using h)]
    rfl
theorem tab_check : TabOK Tryz.prog 18 (scrA fun g ops => .int .i64 (checkR csV opV g ops)) :=
  scr_tab (fun _ _ => rfl) check_nil fun g len k s b n _ _ _ _hl hro wr ra => check_arr g len k s b n hro wr ra
end Go.Ev
end
section
set_option maxRecDepth 100000
namespace Go.Ev
open Go.Proofs Go.RowKit
noncomputable def rkC : Code := match Tryz.prog.funcs[21]? with | some fn => fn.body.getD .skip | none => .skip
noncomputable def rkF : Func := match Tryz.prog.funcs[21]? with | some fn => fn | none => default
theorem rkF_some : Tryz.prog.funcs[21]? = some rkF := by kernel_rfl
theorem rkC_some : rkF.body = some rkC := by kernel_rfl
theorem rkF_n : rkF.ntmps = 54 := by kernel_rfl
theorem rkC_plans : plansIn rkC = true := by kernel_rfl
noncomputable abbrev rkO (g : SetD) (len : Nat) (k s : Nat → Int) (b : Nat → ByteArray) (n : Nat → Int) : List SObj := [opsO len k s b n, .cells (g.sv ++ [.sl 0 (.c 0) ⟨false, len⟩ 4]) true]
theorem rcheck_arr (g : SetD) (len : Nat) (k s : Nat → Int) (b : Nat → ByteArray) (n : Nat → Int) {ρ0 : Emb} {w : World} {args' : Array Value} (hlen : len ≤ 70368744177664) (hro : ∀ i g, ρ0 i = .img g → g.rw = false)
    (wr : WRel ρ0 (mkH [opsO len k s b n]).den w) (ra : VsRel ρ0 (dens [scrS g (slO len)]) args'.toList) :
    Calls E2.P 21 args' w fun e w' => e = .returned (.int .i64 (checkQ r9V oneV g (opsL len k s b n))) ∧ Below w.heap.size w w' := by
  refine calls_StL rkF_some rkC_some rkF_n (by decide) (by simp) wr ra fun bb st => ?_
  have fin : ∀ (v : Int) (l : Bool) b1 w1, StL ρ0 w 54 [(2, .int .i64 l v)] [] b1 w1 → v = checkQ r9V oneV g (opsL len k s b n) → Leaves E2.P rkF b1.tmps (fun e w' => e = .returned (.int .i64 (checkQ r9V oneV g (opsL len k s b n))) ∧ Below w.heap.size w w') b1.defers .returning w1 := by
    intro v l b1 w1 st hv
    refine StL.finish (vs := [.int .i64 l v]) (fun j => by kernel_rfl) st fun ρ v' rv _ fr => ?_
    have := plainR_eq (v := .int .i64 v) rfl rv
    exact ⟨by rw [this, hv], below_of_ro hro fr⟩
  refine StL.pre sound2 thom2 1000 2 (V := vsel ⟨[1, 2, 4], [0, 2]⟩ ⟨[2], []⟩ ⟨[], []⟩) (T := .node (r9V g != 0) (.leaf ⟨.ret, [.int .i64 false (r9V g)], []⟩) (.leaf ⟨.normal, [.ptr 1 (.c 0), .int .i64 true 0, .int .i64 true 0], rkO g len k s b n⟩))
    (by decide) (vok _ _ _ (by decide) (by decide) (by decide)) rkC_plans (by kernel_rfl) (fun j => by kernel_rfl) st ?_
  refine Holds.node (fun h0 => ?_) fun h0 => ?_
  · exact .leaf ⟨rfl, fun b1 w1 st => fin _ _ b1 w1 st (by unfold checkQ; rw [if_neg (by simpa using h0)])⟩
  have hcs : r9V g = 0 := by simpa using h0
  have hres : checkQ r9V oneV g (opsL len k s b n) = if 400 < len ∨ 65536 < sumW 0 (opsL len k s b n) then 6 else firstE oneV (opsL len k s b n) := by
    unfold checkQ
    rw [if_pos hcs, opsL_length]
  refine .leaf ⟨rfl, fun b1 w1 st => ?_⟩
  show (postC 3 rkC).wp E2.P (bodyPostD E2.P rkF _) b1 w1
  refine wp_seqP (by kernel_rfl) ?_
  refine wp_seqP (by kernel_rfl) ?_
  refine StL.piece sound2 thom2 1000 (V := vsel ⟨[1, 2, 4, 5], [0, 1]⟩ ⟨[2], []⟩ ⟨[], []⟩) (T := .leaf ⟨.normal, [.ptr 1 (.c 0), .int .i64 true 0, .int .i64 true 0, .int .i64 true 0], rkO g len k s b n⟩)
    (by decide) (vok _ _ _ (by decide) (by decide) (by decide)) (by kernel_rfl) (fun j => by kernel_rfl) st ?_
  refine Holds.leaf ⟨rfl, fun b2 w2 st => ?_⟩
  show Code.wp E2.P (seqR (seqL (postC 3 rkC))) _ b2 w2
  refine wp_blockP (by kernel_rfl) ?_
  refine wp_loopP (by kernel_rfl) (fun m x w' => ∃ (i : Nat) (acc : Int), m = len - i ∧ i ≤ len ∧ sumW 0 (opsL len k s b n) = sumW acc ((opsL len k s b n).drop i) ∧
    StL ρ0 w 54 ([1, 2, 4, 5].zip [.ptr 1 (.c 0), .int .i64 true 0, .int .i64 false acc, .int .i64 false i]) (rkO g len k s b n) x w') ?_ ⟨0, 0, rfl, Nat.zero_le _, by simp, st.conv rfl rfl⟩
  rintro _ b3 w3 ⟨i, acc, rfl, hi, hacc, st⟩
  refine StL.piece sound2 thom2 1000 (V := vsel ⟨[1, 2, 4, 5], [0, 1]⟩ ⟨[2], []⟩ ⟨[1, 2, 4], [0, 1]⟩) (T := .node (decide ((i : Int) < (len : Int))) (.node (decide ((0 : Int) ≤ (i : Int)) && (i : Int).toNat.blt len) (.node (i.blt len)
        (.leaf ⟨.normal, [.ptr 1 (.c 0), .int .i64 true 0, .int .i64 false (IntKind.i64.wrap (acc + ((b i).size : Int))), .int .i64 false (IntKind.i64.wrap ((i : Int) + 1))], rkO g len k s b n⟩) .fail) .fail)
      (.leaf ⟨.exit 0, [.ptr 1 (.c 0), .int .i64 true 0, .int .i64 false acc], rkO g len k s b n⟩))
    (by decide) (vok _ _ _ (by decide) (by decide) (by decide)) (by kernel_rfl) (fun j => by kernel_rfl) st ?_
  refine Holds.node (fun h2 => ?_) fun h2 => ?_
  · have hlt : i < len := by simpa using h2
    have hblt : i.blt len = true := blt_true hlt
    refine Holds.node (fun _ => Holds.node (fun _ => ?_) fun hf => absurd hf (by rw [hblt]; decide)) fun hf => absurd hf (by simp [hblt])
    refine .leaf ⟨rfl, fun b4 w4 st => ?_⟩
    refine ⟨len - (i + 1), by omega, i + 1, IntKind.i64.wrap (acc + ((b i).size : Int)), rfl, hlt, ?_, st.conv ?_ rfl⟩
    · rw [hacc, opsL_drop hlt, sumW]
    · simp only [dens, SV.den, wrap_succ hlt hlen]
  · have hge : i = len := by simp at h2; omega
    refine .leaf ⟨rfl, fun b4 w4 st => ?_⟩
    have hsum : sumW 0 (opsL len k s b n) = acc := by
      rw [hacc, hge, List.drop_eq_nil_of_le (by rw [opsL_length]; exact Nat.le_refl _)]
      rfl
    show Code.wp E2.P (seqR (postC 3 rkC)) _ b4 w4
    refine StL.pre sound2 thom2 1000 0 (V := vsel ⟨[1, 2], [0, 1]⟩ ⟨[2], []⟩ ⟨[], []⟩) (T := .node (decide ((len : Int) > 400)) (.leaf ⟨.ret, [.int .i64 true 6], []⟩) (.node (decide (acc > 65536)) (.leaf ⟨.ret, [.int .i64 true 6], []⟩)
        (.leaf ⟨.normal, [.ptr 1 (.c 0), .int .i64 true 0], rkO g len k s b n⟩)))
      (by decide) (vok _ _ _ (by decide) (by decide) (by decide)) (by kernel_rfl) (by kernel_rfl) (fun j => by kernel_rfl) st ?_
    refine Holds.node (fun h3 => ?_) fun h3 => Holds.node (fun h4 => ?_) fun h4 => ?_
    · exact .leaf ⟨rfl, fun b1 w1 st => fin _ _ b1 w1 st (by rw [hres, if_pos (.inl (by simp at h3; omega))])⟩
    · exact .leaf ⟨rfl, fun b1 w1 st => fin _ _ b1 w1 st (by rw [hres, if_pos (.inr (by simp at h4; omega))])⟩
    have hres2 : checkQ r9V oneV g (opsL len k s b n) = firstE oneV (opsL len k s b n) := by
      rw [hres, if_neg (by simp at h3 h4; omega)]
    refine .leaf ⟨rfl, fun b5 w5 st => ?_⟩
    show Code.wp E2.P (postC 1 (seqR (postC 3 rkC))) _ b5 w5
    refine wp_seqP (by kernel_rfl) ?_
    refine wp_seqP (by kernel_rfl) ?_
    refine StL.piece sound2 thom2 1000 (V := vsel ⟨[1, 2, 6], [0, 1]⟩ ⟨[2], []⟩ ⟨[], []⟩) (T := .leaf ⟨.normal, [.ptr 1 (.c 0), .int .i64 true 0, .int .i64 true 0], rkO g len k s b n⟩)
      (by decide) (vok _ _ _ (by decide) (by decide) (by decide)) (by kernel_rfl) (fun j => by kernel_rfl) st ?_
    refine Holds.leaf ⟨rfl, fun b6 w6 st => ?_⟩
    show Code.wp E2.P (seqR (seqL (postC 1 (seqR (postC 3 rkC))))) _ b6 w6
    refine wp_blockP (by kernel_rfl) ?_
    refine wp_loopP (by kernel_rfl) (fun m x w' => ∃ i : Nat, m = len - i ∧ i ≤ len ∧ firstE oneV (opsL len k s b n) = firstE oneV ((opsL len k s b n).drop i) ∧
      StL ρ0 w 54 ([1, 2, 6].zip [.ptr 1 (.c 0), .int .i64 true 0, .int .i64 false i]) (rkO g len k s b n) x w') ?_ ⟨0, rfl, Nat.zero_le _, by simp, st.conv rfl rfl⟩
    clear hge hacc hi
    rintro _ b7 w7 ⟨i, rfl, hi, hacc, st⟩
    refine StL.piece sound2 thom2 1000 (V := vsel ⟨[1, 2, 6], [0, 1]⟩ ⟨[2], []⟩ ⟨[1, 2], [0, 1]⟩) (T := .node (decide ((i : Int) < (len : Int))) (.node (decide ((0 : Int) ≤ (i : Int)) && (i : Int).toNat.blt len) (.node (i.blt len)
        (.node (oneV ⟨k i, s i, b i, n i⟩ != 0) (.leaf ⟨.ret, [.int .i64 false (oneV ⟨k i, s i, b i, n i⟩)], []⟩)
          (.leaf ⟨.normal, [.ptr 1 (.c 0), .int .i64 true 0, .int .i64 false (IntKind.i64.wrap ((i : Int) + 1))], rkO g len k s b n⟩)) .fail) .fail)
        (.leaf ⟨.exit 2, [.ptr 1 (.c 0), .int .i64 true 0], rkO g len k s b n⟩))
      (by decide) (vok _ _ _ (by decide) (by decide) (by decide)) (by kernel_rfl) (fun j => by kernel_rfl) st ?_
    refine Holds.node (fun h5 => ?_) fun h5 => ?_
    · have hlt : i < len := by simpa using h5
      have hblt : i.blt len = true := blt_true hlt
      refine Holds.node (fun _ => Holds.node (fun _ => Holds.node (fun h6 => ?_) fun h6 => ?_) fun hf => absurd hf (by rw [hblt]; decide)) fun hf => absurd hf (by simp [hblt])
      · refine .leaf ⟨rfl, fun b8 w8 st => fin _ _ b8 w8 st ?_⟩
        rw [hres2, hacc, opsL_drop hlt, firstE, if_neg (by simpa using h6)]
      · refine .leaf ⟨rfl, fun b8 w8 st => ⟨len - (i + 1), by omega, i + 1, rfl, hlt, ?_, st.conv ?_ rfl⟩⟩
        · rw [hacc, opsL_drop hlt, firstE, if_pos (by simpa using h6)]
        · simp only [dens, SV.den, wrap_succ hlt hlen]
    · have hge : i = len := by simp at h5; omega
      refine .leaf ⟨rfl, fun b8 w8 st => ?_⟩
      have hz : checkQ r9V oneV g (opsL len k s b n) = 0 := by
        rw [hres2, hacc, hge, List.drop_eq_nil_of_le (by rw [opsL_length]; exact Nat.le_refl _)]
        rfl
      show Code.wp E2.P (seqR (postC 1 (seqR (postC 3 rkC)))) _ b8 w8
      refine StL.piece sound2 thom2 1000 (V := vsel ⟨[], []⟩ ⟨[2], []⟩ ⟨[], []⟩) (T := .leaf ⟨.ret, [.int .i64 true 0], []⟩)
        (by decide) (vok _ _ _ (by decide) (by decide) (by decide)) (by kernel_rfl) (fun j => by kernel_rfl) st ?_
      exact Holds.leaf ⟨rfl, fun b9 w9 st => fin _ _ b9 w9 st hz.symm⟩
theorem rcheck_nil (g : SetD) (w : World) : Calls Tryz.prog 21 (dens [scrS g nilO]).toArray w fun e w' => e = .returned (.int .i64 (checkQ r9V oneV g [])) ∧ Below w.heap.size w w' := by
  have tree : endT (evalCallS E2 S2 1000 21 [scrS g nilO] SH.empty) = .node (r9V g != 0) (.leaf (.returned (.int .i64 false (r9V g)))) (.leaf (.returned (.int .i64 true 0))) := by kernel_rfl
  refine scal_of_tree sound2 thom2 1000 tree rfl rfl ?_ w
  refine Holds.node (fun h => .leaf ?_) fun h => .leaf ?_
  · unfold checkQ
    rw [if_neg (by simpa using h)]
    rfl
  · unfold checkQ
    rw [if_pos (by simpa using h)]
    rfl
theorem tab_rcheck : TabOK Tryz.prog 21 (scrA fun g ops => .int .i64 (checkQ r9V oneV g ops)) :=
  scr_tab (fun _ _ => rfl) rcheck_nil fun g len k s b n _ _ _ hl hro wr ra => rcheck_arr g len k s b n hl hro wr ra
end Go.Ev
end
section
set_option maxRecDepth 100000
namespace Go.Ev
open Go.Proofs Go.RowKit
/-! bagatellelaw10.long -/
noncomputable def lgC : Code := match Tryz.prog.funcs[5]? with | some fn => fn.body.getD .skip | none => .skip
noncomputable def lgF : Func := match Tryz.prog.funcs[5]? with | some fn => fn | none => default
theorem lgF_some : Tryz.prog.funcs[5]? = some lgF := by kernel_rfl
theorem lgC_some : lgF.body = some lgC := by kernel_rfl
theorem lgF_n : lgF.ntmps = 41 := by kernel_rfl
theorem lgC_plans : plansIn lgC = true := by kernel_rfl
noncomputable abbrev lgO (g : SetD) (len : Nat) (k s : Nat → Int) (b : Nat → ByteArray) (n : Nat → Int) : List SObj := [opsO len k s b n, .cells (g.sv ++ [.sl 0 (.c 0) ⟨false, len⟩ 4]) true]
theorem long_arr (g : SetD) (len : Nat) (k s : Nat → Int) (b : Nat → ByteArray) (n : Nat → Int) {ρ0 : Emb} {w : World} {args' : Array Value} (hlen : len ≤ 70368744177664) (hro : ∀ i g, ρ0 i = .img g → g.rw = false)
    (wr : WRel ρ0 (mkH [opsO len k s b n]).den w) (ra : VsRel ρ0 (dens [scrS g (slO len)]) args'.toList) :
    Calls E2.P 5 args' w fun e w' => e = .returned (.bool (longQ (opsL len k s b n))) ∧ Below w.heap.size w w' := by
  refine calls_StL lgF_some lgC_some lgF_n (by decide) (by simp) wr ra fun bb st => ?_
  have fin : ∀ (v l : Bool) b1 w1, StL ρ0 w 41 [(2, .bool l v)] [] b1 w1 → v = longQ (opsL len k s b n) → Leaves E2.P lgF b1.tmps (fun e w' => e = .returned (.bool (longQ (opsL len k s b n))) ∧ Below w.heap.size w w') b1.defers .returning w1 := by
    intro v l b1 w1 st hv
    refine StL.finish (vs := [.bool l v]) (fun j => by kernel_rfl) st fun ρ v' rv _ fr => ?_
    have := plainR_eq (v := .bool v) rfl rv
    exact ⟨by rw [this, hv], below_of_ro hro fr⟩
  refine StL.pre sound2 thom2 1000 1 (V := vsel ⟨[1, 2, 3], [0, 2]⟩ ⟨[2], []⟩ ⟨[], []⟩) (T := .leaf ⟨.normal, [.ptr 1 (.c 0), .bool true false, .int .i64 true 0], lgO g len k s b n⟩)
    (by decide) (vok _ _ _ (by decide) (by decide) (by decide)) lgC_plans (by kernel_rfl) (fun j => by kernel_rfl) st ?_
  refine Holds.leaf ⟨rfl, fun b1 w1 st => ?_⟩
  show (postC 2 lgC).wp E2.P (bodyPostD E2.P lgF _) b1 w1
  refine wp_seqP (by kernel_rfl) ?_
  refine wp_seqP (by kernel_rfl) ?_
  refine StL.piece sound2 thom2 1000 (V := vsel ⟨[1, 2, 3, 4], [0, 1]⟩ ⟨[2], []⟩ ⟨[], []⟩) (T := .leaf ⟨.normal, [.ptr 1 (.c 0), .bool true false, .int .i64 true 0, .int .i64 true 0], lgO g len k s b n⟩)
    (by decide) (vok _ _ _ (by decide) (by decide) (by decide)) (by kernel_rfl) (fun j => by kernel_rfl) st ?_
  refine Holds.leaf ⟨rfl, fun b2 w2 st => ?_⟩
  show Code.wp E2.P (seqR (seqL (postC 2 lgC))) _ b2 w2
  refine wp_blockP (by kernel_rfl) ?_
  refine wp_loopP (by kernel_rfl) (fun m x w' => ∃ (i : Nat) (acc : Int), m = len - i ∧ i ≤ len ∧ sumW 0 (opsL len k s b n) = sumW acc ((opsL len k s b n).drop i) ∧
    StL ρ0 w 41 ([1, 2, 3, 4].zip [.ptr 1 (.c 0), .bool true false, .int .i64 false acc, .int .i64 false i]) (lgO g len k s b n) x w') ?_ ⟨0, 0, rfl, Nat.zero_le _, by simp, st.conv rfl rfl⟩
  rintro _ b3 w3 ⟨i, acc, rfl, hi, hacc, st⟩
  refine StL.piece sound2 thom2 1000 (V := vsel ⟨[1, 2, 3, 4], [0, 1]⟩ ⟨[2], []⟩ ⟨[1, 2, 3], [0, 1]⟩) (T := .node (decide ((i : Int) < (len : Int))) (.node (decide ((0 : Int) ≤ (i : Int)) && (i : Int).toNat.blt len) (.node (i.blt len)
        (.leaf ⟨.normal, [.ptr 1 (.c 0), .bool true false, .int .i64 false (IntKind.i64.wrap (acc + ((b i).size : Int))), .int .i64 false (IntKind.i64.wrap ((i : Int) + 1))], lgO g len k s b n⟩) .fail) .fail)
      (.leaf ⟨.exit 0, [.ptr 1 (.c 0), .bool true false, .int .i64 false acc], lgO g len k s b n⟩))
    (by decide) (vok _ _ _ (by decide) (by decide) (by decide)) (by kernel_rfl) (fun j => by kernel_rfl) st ?_
  refine Holds.node (fun h2 => ?_) fun h2 => ?_
  · have hlt : i < len := by simpa using h2
    have hblt : i.blt len = true := blt_true hlt
    refine Holds.node (fun _ => Holds.node (fun _ => ?_) fun hf => absurd hf (by rw [hblt]; decide)) fun hf => absurd hf (by simp [hblt])
    refine .leaf ⟨rfl, fun b4 w4 st => ?_⟩
    refine ⟨len - (i + 1), by omega, i + 1, IntKind.i64.wrap (acc + ((b i).size : Int)), rfl, hlt, ?_, st.conv ?_ rfl⟩
    · rw [hacc, opsL_drop hlt, sumW]
    · simp only [dens, SV.den, wrap_succ hlt hlen]
  · have hge : i = len := by simp at h2; omega
    refine .leaf ⟨rfl, fun b4 w4 st => ?_⟩
    have hsum : sumW 0 (opsL len k s b n) = acc := by
      rw [hacc, hge, List.drop_eq_nil_of_le (by rw [opsL_length]; exact Nat.le_refl _)]
      rfl
    have hq : longQ (opsL len k s b n) = decide ((60 < len ∨ 3000 < acc) ∧ len ≤ 400 ∨ 450 < len) := by unfold longQ; rw [opsL_length, hsum]
    show Code.wp E2.P (seqR (postC 2 lgC)) _ b4 w4
    refine StL.piece sound2 thom2 1000 (V := vsel ⟨[], []⟩ ⟨[2], []⟩ ⟨[], []⟩) (T := .node (decide ((len : Int) > 60))
        (.node (decide ((len : Int) ≤ 400)) (.leaf ⟨.ret, [.bool true true], []⟩) (.leaf ⟨.ret, [.bool false (decide ((len : Int) > 450))], []⟩))
        (.node (decide (acc > 3000)) (.node (decide ((len : Int) ≤ 400)) (.leaf ⟨.ret, [.bool true true], []⟩) (.leaf ⟨.ret, [.bool false (decide ((len : Int) > 450))], []⟩))
          (.leaf ⟨.ret, [.bool false (decide ((len : Int) > 450))], []⟩)))
      (by decide) (vok _ _ _ (by decide) (by decide) (by decide)) (by kernel_rfl) (fun j => by kernel_rfl) st ?_
    refine Holds.node (fun h3 => Holds.node (fun h4 => ?_) fun h4 => ?_) fun h3 => Holds.node (fun h4 => Holds.node (fun h5 => ?_) fun h5 => ?_) fun h4 => ?_
    all_goals
      refine .leaf ⟨rfl, fun b9 w9 st => fin _ _ b9 w9 st ?_⟩
      rw [hq]
      simp only [decide_eq_true_eq, decide_eq_false_iff_not] at *
      first
        | (symm; rw [decide_eq_true_eq]; omega)
        | (rw [decide_eq_decide]; omega)
theorem long_nil (g : SetD) (w : World) : Calls Tryz.prog 5 (dens [scrS g nilO]).toArray w fun e w' => e = .returned (.bool (longQ [])) ∧ Below w.heap.size w w' := by
  have tree : endT (evalCallS E2 S2 1000 5 [scrS g nilO] SH.empty) = .leaf (.returned (.bool true false)) := by kernel_rfl
  exact scal_of_tree sound2 thom2 1000 tree rfl rfl (Holds.leaf rfl) w
theorem tab_long : TabOK Tryz.prog 5 (scrA fun _ ops => .bool (longQ ops)) :=
  scr_tab (fun _ _ => rfl) long_nil fun g len k s b n _ _ _ hl hro wr ra => long_arr g len k s b n hl hro wr ra
end Go.Ev
end
section
set_option maxRecDepth 100000
namespace Go.Ev
open Go.Proofs Go.RowKit
/-! bagatelleref10.SameScript -/
noncomputable def rsC : Code := match Tryz.prog.funcs[11]? with | some fn => fn.body.getD .skip | none => .skip
noncomputable def rsF : Func := match Tryz.prog.funcs[11]? with | some fn => fn | none => default
theorem rsF_some : Tryz.prog.funcs[11]? = some rsF := by kernel_rfl
theorem rsC_some : rsF.body = some rsC := by kernel_rfl
theorem rsF_n : rsF.ntmps = 38 := by kernel_rfl
theorem rsC_plans : plansIn rsC = true := by kernel_rfl
theorem rs_fin {ρ0 : Emb} {w : World} (hro : ∀ i g, ρ0 i = .img g → g.rw = false) {u : Bool} (v l : Bool) (b1 : Act) (w1 : World) (st : StL ρ0 w 38 [(4, .bool l v)] [] b1 w1) (hv : v = u) :
    Leaves E2.P rsF b1.tmps (fun e w' => e = .returned (.bool u) ∧ Below w.heap.size w w') b1.defers .returning w1 := by
  refine StL.finish (vs := [.bool l v]) (fun j => by kernel_rfl) st fun ρ v' rv _ fr => ?_
  have := plainR_eq (v := .bool v) rfl rv
  exact ⟨by rw [this, hv], below_of_ro hro fr⟩
noncomputable abbrev rsO (g : SetD) (len : Nat) (k s : Nat → Int) (b : Nat → ByteArray) (n : Nat → Int) (g' : SetD) (len' : Nat) (k' s' : Nat → Int) (b' : Nat → ByteArray) (n' : Nat → Int) : List SObj := [opsO len k s b n, opsO len' k' s' b' n', .cells (g.sv ++ [slP 0 len]) true, .cells (g'.sv ++ [slP 1 len']) true]
theorem rs_00 (g g' : SetD)  (ρ0 : Emb) (w : World) (args' : Array Value)  (hro : ∀ i g, ρ0 i = .img g → g.rw = false) (wr : WRel ρ0 (mkH []).den w) (ra : VsRel ρ0 (dens [scrS g nilO, scrS g' nilO]) (Array.toList args')) :
    Calls E2.P 11 args' w fun e w' => e = .returned (.bool (sameS g [] g' [])) ∧ Below w.heap.size w w' := by
  refine calls_StL rsF_some rsC_some rsF_n (by decide) (by simp) wr ra fun bb st => ?_
  refine StL.piece sound2 thom2 1000 (V := vsel ⟨[], []⟩ ⟨[4], []⟩ ⟨[], []⟩) (T := .node (!(g.gx == g'.gx && (g.gxf == g'.gxf && (g.gy == g'.gy && (g.gyf == g'.gyf && (g.dt == g'.dt && (g.dtf == g'.dtf && (g.most == g'.most && (g.rounds == g'.rounds && (g.sess == g'.sess && (g.staged == g'.staged && (g.queue == g'.queue && true)))))))))))) (.leaf ⟨.ret, [.bool true false], []⟩) (.leaf ⟨.ret, [.bool true true], []⟩))
    (by decide) (vok _ _ _ (by decide) (by decide) (by decide)) rsC_plans (fun j => by kernel_rfl) st ?_
  refine Holds.node (fun h0 => Holds.leaf ⟨rfl, fun b1 w1 st => rs_fin hro _ _ b1 w1 st (by rw [sameS, show eqSet g g' = false from by rw [Bool.not_eq_true'] at h0; exact h0, Bool.false_and])⟩) fun h0 => ?_
  have hE : eqSet g g' = true := by rw [Bool.not_eq_false'] at h0; exact h0
  rw [sameS, hE, Bool.true_and]
  exact Holds.leaf ⟨rfl, fun b1 w1 st => rs_fin hro _ _ b1 w1 st rfl⟩
theorem rs_01 (g g' : SetD) (len : Nat) (k s : Nat → Int) (b : Nat → ByteArray) (n : Nat → Int) (ρ0 : Emb) (w : World) (args' : Array Value) (hlen : len ≤ 70368744177664) (hro : ∀ i g, ρ0 i = .img g → g.rw = false) (wr : WRel ρ0 (mkH [opsO len k s b n]).den w) (ra : VsRel ρ0 (dens [scrS g nilO, scrS g' (slO len)]) (Array.toList args')) :
    Calls E2.P 11 args' w fun e w' => e = .returned (.bool (sameS g [] g' (opsL len k s b n))) ∧ Below w.heap.size w w' := by
  refine calls_StL rsF_some rsC_some rsF_n (by decide) (by simp) wr ra fun bb st => ?_
  refine StL.piece sound2 thom2 1000 (V := vsel ⟨[], []⟩ ⟨[4], []⟩ ⟨[], []⟩) (T := .node (!(g.gx == g'.gx && (g.gxf == g'.gxf && (g.gy == g'.gy && (g.gyf == g'.gyf && (g.dt == g'.dt && (g.dtf == g'.dtf && (g.most == g'.most && (g.rounds == g'.rounds && (g.sess == g'.sess && (g.staged == g'.staged && (g.queue == g'.queue && true)))))))))))) (.leaf ⟨.ret, [.bool true false], []⟩) (.node ((0 : Int) != (len : Int)) (.leaf ⟨.ret, [.bool true false], []⟩) (.leaf ⟨.ret, [.bool true true], []⟩)))
    (by decide) (vok _ _ _ (by decide) (by decide) (by decide)) rsC_plans (fun j => by kernel_rfl) st ?_
  refine Holds.node (fun h0 => Holds.leaf ⟨rfl, fun b1 w1 st => rs_fin hro _ _ b1 w1 st (by rw [sameS, show eqSet g g' = false from by rw [Bool.not_eq_true'] at h0; exact h0, Bool.false_and])⟩) fun h0 => ?_
  have hE : eqSet g g' = true := by rw [Bool.not_eq_false'] at h0; exact h0
  rw [sameS, hE, Bool.true_and]
  refine Holds.node (fun h1 => Holds.leaf ⟨rfl, fun b1 w1 st => rs_fin hro _ _ b1 w1 st ?_⟩) fun h1 => Holds.leaf ⟨rfl, fun b1 w1 st => rs_fin hro _ _ b1 w1 st ?_⟩
  · rw [sameL_length]
    rw [opsL_length]
    simp at h1 ⊢
    omega
  · have : len = 0 := by simp at h1; omega
    subst this
    rfl
theorem rs_10 (g g' : SetD) (len : Nat) (k s : Nat → Int) (b : Nat → ByteArray) (n : Nat → Int) (ρ0 : Emb) (w : World) (args' : Array Value) (hlen : len ≤ 70368744177664) (hro : ∀ i g, ρ0 i = .img g → g.rw = false) (wr : WRel ρ0 (mkH [opsO len k s b n]).den w) (ra : VsRel ρ0 (dens [scrS g (slO len), scrS g' nilO]) (Array.toList args')) :
    Calls E2.P 11 args' w fun e w' => e = .returned (.bool (sameS g (opsL len k s b n) g' [])) ∧ Below w.heap.size w w' := by
  refine calls_StL rsF_some rsC_some rsF_n (by decide) (by simp) wr ra fun bb st => ?_
  refine StL.piece sound2 thom2 1000 (V := vsel ⟨[], []⟩ ⟨[4], []⟩ ⟨[], []⟩) (T := .node (!(g.gx == g'.gx && (g.gxf == g'.gxf && (g.gy == g'.gy && (g.gyf == g'.gyf && (g.dt == g'.dt && (g.dtf == g'.dtf && (g.most == g'.most && (g.rounds == g'.rounds && (g.sess == g'.sess && (g.staged == g'.staged && (g.queue == g'.queue && true)))))))))))) (.leaf ⟨.ret, [.bool true false], []⟩) (.node ((len : Int) != (0 : Int)) (.leaf ⟨.ret, [.bool true false], []⟩) (.node (decide ((0 : Int) < (len : Int))) (.node (decide ((0 : Int) ≤ (0 : Int)) && (0 : Int).toNat.blt len) (.node (Nat.blt 0 len) .fail .fail) .fail) (.leaf ⟨.ret, [.bool true true], []⟩))))
    (by decide) (vok _ _ _ (by decide) (by decide) (by decide)) rsC_plans (fun j => by kernel_rfl) st ?_
  refine Holds.node (fun h0 => Holds.leaf ⟨rfl, fun b1 w1 st => rs_fin hro _ _ b1 w1 st (by rw [sameS, show eqSet g g' = false from by rw [Bool.not_eq_true'] at h0; exact h0, Bool.false_and])⟩) fun h0 => ?_
  have hE : eqSet g g' = true := by rw [Bool.not_eq_false'] at h0; exact h0
  rw [sameS, hE, Bool.true_and]
  refine Holds.node (fun h1 => Holds.leaf ⟨rfl, fun b1 w1 st => rs_fin hro _ _ b1 w1 st ?_⟩) fun h1 => Holds.node (fun h2 => absurd h2 ?_) fun h2 => Holds.leaf ⟨rfl, fun b1 w1 st => rs_fin hro _ _ b1 w1 st ?_⟩
  · rw [sameL_length]
    rw [opsL_length]
    simp at h1 ⊢
    omega
  · have : len = 0 := by simp at h1; omega
    subst this
    decide
  · have : len = 0 := by simp at h1; omega
    subst this
    rfl
theorem rs_11 (g g' : SetD) (len : Nat) (k s : Nat → Int) (b : Nat → ByteArray) (n : Nat → Int) (len' : Nat) (k' s' : Nat → Int) (b' : Nat → ByteArray) (n' : Nat → Int) (ρ0 : Emb) (w : World) (args' : Array Value) (hlen : len ≤ 70368744177664) (hlen' : len' ≤ 70368744177664) (hro : ∀ i g, ρ0 i = .img g → g.rw = false) (wr : WRel ρ0 (mkH [opsO len k s b n, opsO len' k' s' b' n']).den w) (ra : VsRel ρ0 (dens [scrS g (slP 0 len), scrS g' (slP 1 len')]) (Array.toList args')) :
    Calls E2.P 11 args' w fun e w' => e = .returned (.bool (sameS g (opsL len k s b n) g' (opsL len' k' s' b' n'))) ∧ Below w.heap.size w w' := by
  refine calls_StL rsF_some rsC_some rsF_n (by decide) (by simp) wr ra fun bb st => ?_
  refine StL.pre sound2 thom2 1000 1 (V := vsel ⟨[2, 3, 4], [0, 1, 3, 4]⟩ ⟨[4], []⟩ ⟨[], []⟩) (T := .node (!(g.gx == g'.gx && (g.gxf == g'.gxf && (g.gy == g'.gy && (g.gyf == g'.gyf && (g.dt == g'.dt && (g.dtf == g'.dtf && (g.most == g'.most && (g.rounds == g'.rounds && (g.sess == g'.sess && (g.staged == g'.staged && (g.queue == g'.queue && true)))))))))))) (.leaf ⟨.ret, [.bool true false], []⟩) (.node ((len : Int) != (len' : Int)) (.leaf ⟨.ret, [.bool true false], []⟩)
      (.leaf ⟨.normal, [.ptr 2 (.c 0), .ptr 3 (.c 0), .bool true false], rsO g len k s b n g' len' k' s' b' n'⟩)))
    (by decide) (vok _ _ _ (by decide) (by decide) (by decide)) rsC_plans (by kernel_rfl) (fun j => by kernel_rfl) st ?_
  refine Holds.node (fun h0 => Holds.leaf ⟨rfl, fun b1 w1 st => rs_fin hro _ _ b1 w1 st (by rw [sameS, show eqSet g g' = false from by rw [Bool.not_eq_true'] at h0; exact h0, Bool.false_and])⟩) fun h0 => ?_
  have hE : eqSet g g' = true := by rw [Bool.not_eq_false'] at h0; exact h0
  rw [sameS, hE, Bool.true_and]
  refine Holds.node (fun h1 => ?_) fun h1 => ?_
  · refine Holds.leaf ⟨rfl, fun b1 w1 st => rs_fin hro _ _ b1 w1 st ?_⟩
    rw [sameL_length]
    rw [opsL_length, opsL_length]
    simp at h1
    omega
  have heq : len' = len := by simp at h1; omega
  subst heq
  refine Holds.leaf ⟨rfl, fun b1 w1 st => ?_⟩
  show (postC 2 rsC).wp E2.P (bodyPostD E2.P rsF _) b1 w1
  refine wp_seqP (by kernel_rfl) ?_
  refine wp_seqP (by kernel_rfl) ?_
  refine StL.piece sound2 thom2 1000 (V := vsel ⟨[2, 3, 4, 5], [0, 1, 2, 3]⟩ ⟨[4], []⟩ ⟨[], []⟩) (T := .leaf ⟨.normal, [.ptr 2 (.c 0), .ptr 3 (.c 0), .bool true false, .int .i64 true 0], rsO g len' k s b n g' len' k' s' b' n'⟩)
    (by decide) (vok _ _ _ (by decide) (by decide) (by decide)) (by kernel_rfl) (fun j => by kernel_rfl) st ?_
  refine Holds.leaf ⟨rfl, fun b2 w2 st => ?_⟩
  show Code.wp E2.P (seqR (seqL (postC 2 rsC))) _ b2 w2
  refine wp_blockP (by kernel_rfl) ?_
  refine wp_loopP (by kernel_rfl) (fun m x w' => ∃ (i : Nat), m = len' - i ∧ i ≤ len' ∧ sameL (opsL len' k s b n) (opsL len' k' s' b' n') = sameL ((opsL len' k s b n).drop i) ((opsL len' k' s' b' n').drop i) ∧
    StL ρ0 w 38 ([2, 3, 4, 5].zip [.ptr 2 (.c 0), .ptr 3 (.c 0), .bool true false, .int .i64 false i]) (rsO g len' k s b n g' len' k' s' b' n') x w') ?_ ⟨0, rfl, Nat.zero_le _, by simp, st.conv rfl rfl⟩
  rintro _ b3 w3 ⟨i, rfl, hi, hacc, st⟩
  refine StL.piece sound2 thom2 1000 (V := vsel ⟨[2, 3, 4, 5], [0, 1, 2, 3]⟩ ⟨[4], []⟩ ⟨[], []⟩) (T := .node (decide ((i : Int) < (len' : Int))) (.node (decide ((0 : Int) ≤ (i : Int)) && (i : Int).toNat.blt len') (.node (i.blt len') (.node (decide ((0 : Int) ≤ (i : Int)) && (i : Int).toNat.blt len') (.node (i.blt len')
        (.node (!(k i == k' i && (s i == s' i && (b i == b' i && (n i == n' i && true))))) (.leaf ⟨.ret, [.bool true false], []⟩)
          (.leaf ⟨.normal, [.ptr 2 (.c 0), .ptr 3 (.c 0), .bool true false, .int .i64 false (IntKind.i64.wrap ((i : Int) + 1))], rsO g len' k s b n g' len' k' s' b' n'⟩)) .fail) .fail) .fail) .fail)
      (.leaf ⟨.exit 0, [], []⟩))
    (by decide) (vok _ _ _ (by decide) (by decide) (by decide)) (by kernel_rfl) (fun j => by kernel_rfl) st ?_
  refine Holds.node (fun h2 => ?_) fun h2 => ?_
  · have hlt : i < len' := by simpa using h2
    have hblt : i.blt len' = true := blt_true hlt
    refine Holds.node (fun _ => Holds.node (fun _ => Holds.node (fun _ => Holds.node (fun _ => Holds.node (fun h3 => ?_) fun h3 => ?_) fun hf => absurd hf (by rw [hblt]; decide)) fun hf => absurd hf (by simp [hblt])) fun hf => absurd hf (by rw [hblt]; decide)) fun hf => absurd hf (by simp [hblt])
    · refine .leaf ⟨rfl, fun b4 w4 st => rs_fin hro _ _ b4 w4 st ?_⟩
      rw [hacc, opsL_drop hlt, opsL_drop hlt, sameL]
      have : eqOp ⟨k i, s i, b i, n i⟩ ⟨k' i, s' i, b' i, n' i⟩ = false := by
        rw [Bool.not_eq_true'] at h3
        exact h3
      rw [this, Bool.false_and]
    · refine .leaf ⟨rfl, fun b4 w4 st => ?_⟩
      refine ⟨len' - (i + 1), by omega, i + 1, rfl, hlt, ?_, st.conv ?_ rfl⟩
      · rw [hacc, opsL_drop hlt, opsL_drop hlt, sameL]
        have : eqOp ⟨k i, s i, b i, n i⟩ ⟨k' i, s' i, b' i, n' i⟩ = true := by
          rw [Bool.not_eq_false'] at h3
          exact h3
        rw [this, Bool.true_and]
      · simp only [dens, SV.den, wrap_succ hlt hlen']
  · have hge : i = len' := by simp at h2; omega
    refine .leaf ⟨rfl, fun b4 w4 st => ?_⟩
    show Code.wp E2.P (seqR (postC 2 rsC)) _ b4 w4
    refine StL.piece sound2 thom2 1000 (V := vsel ⟨[], []⟩ ⟨[4], []⟩ ⟨[], []⟩) (T := .leaf ⟨.ret, [.bool true true], []⟩)
      (by decide) (vok _ _ _ (by decide) (by decide) (by decide)) (by kernel_rfl) (fun j => by kernel_rfl) st ?_
    refine Holds.leaf ⟨rfl, fun b9 w9 st => rs_fin hro _ _ b9 w9 st ?_⟩
    rw [hacc, hge, List.drop_eq_nil_of_le (by rw [opsL_length]; exact Nat.le_refl _), List.drop_eq_nil_of_le (by rw [opsL_length]; exact Nat.le_refl _)]
    rfl
theorem tab_rs : TabOK Tryz.prog 11 (scr2A fun g ops g2 ops2 => .bool (sameS g ops g2 ops2)) :=
  scr2_tab (fun _ _ _ _ => rfl) (fun g g2 ρ w args' => rs_00 g g2 ρ w args') (fun g g2 len k s b n ρ w args' => rs_01 g g2 len k s b n ρ w args') (fun g g2 len k s b n ρ w args' => rs_10 g g2 len k s b n ρ w args') fun g g2 len k s b n len' k' s' b' n' ρ w args' => rs_11 g g2 len k s b n len' k' s' b' n' ρ w args'
end Go.Ev
end
section
set_option maxRecDepth 100000
namespace Go.Ev
open Go.Proofs Go.RowKit
/-! The table for the laws. -/
def sAw : List SV → Option SV
  | [] => some (.bool true true)
  | _ :: _ => none
theorem sAw_hom : ∀ args id, Hom HV (scalS sAw args id) (scalA (specOf sAw) (dens args) id) := scal_hom fun args v h => by
  unfold sAw at h
  split at h
  · cases h; rfl
  · cases h
theorem tab_awake : TabOK Tryz.prog 6 (scalA (specOf sAw)) := scal_tab' fun sargs v hs => by
  unfold sAw at hs
  split at hs
  · cases hs
    exact ⟨rfl, rfl, fun w => awake_ok w⟩
  · cases hs
noncomputable def E4 : Env := ((((E2.add (one 6 (scalA (specOf sAw)))).add (one 5 (scrA fun _ ops => .bool (longQ ops)))).add (one 18 (scrA fun g ops => .int .i64 (checkR csV opV g ops)))).add
  (one 21 (scrA fun g ops => .int .i64 (checkQ r9V oneV g ops)))).add (one 11 (scr2A fun g ops g2 ops2 => .bool (sameS g ops g2 ops2)))
noncomputable def S4 : STab := addS (oneSym 11 (scr2Sym fun g ops g2 ops2 => .bool false (sameS g ops g2 ops2))) (addS (oneSym 21 (scrSym fun g ops => .int .i64 false (checkQ r9V oneV g ops))) (addS (oneSym 18 (scrSym fun g ops => .int .i64 false (checkR csV opV g ops)))
  (addS (oneSym 5 (scrSym fun _ ops => .bool false (longQ ops))) (addS (oneSym 6 (scalS sAw)) S2))))
theorem sound4 : Sound E4 := ((((sound2.add tab_awake).add tab_long).add tab_check).add tab_rcheck).add tab_rs
theorem thom4 : TabHom E4 S4 := ((((thom2.add sAw_hom).add (scr_hom fun _ _ => rfl)).add (scr_hom fun _ _ => rfl)).add (scr_hom fun _ _ => rfl)).add (scr2_hom fun _ _ _ _ => rfl)
end Go.Ev
end
section
set_option maxRecDepth 100000
set_option linter.unusedVariables false
set_option linter.unusedSimpArgs false
namespace Go.Ev
open Go.Proofs Go.RowKit
/-! Small helps. -/
theorem Holds.yes {α : Type} {p : α → Prop} {c : Bool} {t f : Tree α} (h : c = true) (k : Holds p t) : Holds p (.node c t f) := Holds.node (fun _ => k) fun hf => by rw [h] at hf; cases hf
theorem Holds.no {α : Type} {p : α → Prop} {c : Bool} {t f : Tree α} (h : c = false) (k : Holds p f) : Holds p (.node c t f) := Holds.node (fun hf => by rw [h] at hf; cases hf) fun _ => k
theorem bleA (x : Nat) : Nat.ble (Nat.div 0 4 + x) x = true := Nat.ble_eq_true_of_le (show 0 + x ≤ x by omega)
theorem capA {x : Nat} (h : x ≤ 450) : (Nat.ble x 70368744177664 && capRoom x 40) = true := by
  rw [Nat.ble_eq_true_of_le (by omega : x ≤ 70368744177664), Bool.true_and]
  exact Nat.ble_eq_true_of_le (by omega)
theorem long450 {l : List OpD} (h : longQ l = false) : l.length ≤ 450 := by
  simp only [longQ, decide_eq_false_iff_not] at h
  omega
theorem opsL_zero (k s : Nat → Int) (b : Nat → ByteArray) (n : Nat → Int) : opsL 0 k s b n = [] := rfl
theorem longQ_nil : longQ [] = false := by decide
end Go.Ev
end
section
set_option maxRecDepth 100000
namespace Go.Ev
open Go.Proofs Go.RowKit
/-! history.Bytes -/
noncomputable def hbC : Code := match Tryz.prog.funcs[13]? with | some fn => fn.body.getD .skip | none => .skip
noncomputable def hbF : Func := match Tryz.prog.funcs[13]? with | some fn => fn | none => default
noncomputable abbrev roomO (g : SetD) : SObj := .cells [.int .i64 false g.gx, .bool false g.gxf, .int .i64 false g.gy, .bool false g.gyf, .int .i64 false g.dt, .bool false g.dtf, .int .i64 false g.most, .int .i64 false g.rounds] true
noncomputable abbrev scO (g : SetD) (sl : SV) : SObj := .cells (g.sv ++ [sl]) true
noncomputable abbrev numS (v f : Int) : List SV := (be8 (IntKind.u64.wrap v)).map (fun x => .int .u8 false x) ++ [.int .u8 true f]
noncomputable abbrev l6O (g : SetD) (n : Int) : SObj := .cells [.int .i64 false g.most, .int .i64 false g.rounds, .int .i64 false g.sess, .int .i64 false g.staged, .int .i64 false g.queue, .int .i64 false n] true
/-- The bytes of the three numbers. -/
noncomputable def fl (b : Bool) : Int := bif b then 1 else 0
noncomputable def hd27 (g : SetD) (a b c : Int) : List Int := be8 (IntKind.u64.wrap g.gx) ++ [a] ++ (be8 (IntKind.u64.wrap g.gy) ++ [b] ++ (be8 (IntKind.u64.wrap g.dt) ++ [c]))
noncomputable def hdF (l : List Int) (i : Nat) : Int := l.getD i 0
noncomputable abbrev hbL (g : SetD) (sl : SV) (O : List SObj) (i : Nat) (a b c : Int) : Tree View := .leaf ⟨.normal, [.ptr i (.c 0), .sl (i + 1) (.c 0) ⟨true, 27⟩ 1, .ptr (i + 2) (.c 0)], O ++ [scO g sl, .cells (numS g.gx a ++ numS g.gy b ++ numS g.dt c) true, roomO g]⟩
noncomputable abbrev hbT (g : SetD) (sl : SV) (O : List SObj) (i : Nat) (ops : List OpD) : Tree View :=
  .node (checkR csV opV g ops != 0) (.leaf ⟨.ret, [.str true ⟨#[]⟩, .int .i64 false (checkR csV opV g ops)], []⟩)
    (.node g.gxf (.node g.gyf (.node g.dtf (hbL g sl O i 1 1 1) (hbL g sl O i 1 1 0)) (.node g.dtf (hbL g sl O i 1 0 1) (hbL g sl O i 1 0 0)))
      (.node g.gyf (.node g.dtf (hbL g sl O i 0 1 1) (hbL g sl O i 0 1 0)) (.node g.dtf (hbL g sl O i 0 0 1) (hbL g sl O i 0 0 0))))
theorem hbF_some : Tryz.prog.funcs[13]? = some hbF := by kernel_rfl
theorem hbC_some : hbF.body = some hbC := by kernel_rfl
theorem hbF_n : hbF.ntmps = 96 := by kernel_rfl
theorem hbC_plans : plansIn hbC = true := by kernel_rfl
theorem hb_pre (g : SetD) (len : Nat) (k s : Nat → Int) (b : Nat → ByteArray) (n : Nat → Int) (j : Nat → Value) : (evalS E4 S4 1000 (preC 4 hbC) (mkA 96 (argL [scrS g (slO len)]) j) (mkH [opsO len k s b n])).mapO (viewD 96 (vselD ⟨[1, 6, 5], [.id 0, .of 1, .of 6, .of 5]⟩ ⟨[2, 3], []⟩ ⟨[], []⟩)) =
    .node (Nat.ble (Nat.div 0 4 + len) len) (.node (Nat.ble len 70368744177664) (hbT g (slO len) [opsO len k s b n] 1 (opsL len k s b n)) .fail) .fail := by kernel_rfl
theorem hb_r6 (g : SetD) (len : Nat) (k s : Nat → Int) (b : Nat → ByteArray) (n : Nat → Int) (m : Nat) (f : Nat → Int) (j : Nat → Value) :
    (evalS E4 S4 1000 (seqL (seqL (postC 4 hbC))) (mkA 96 ([1, 6, 5].zip [.ptr 1 (.c 0), .sl 2 (.c 0) ⟨false, m⟩ 1, .ptr 3 (.c 0)]) j) (mkH [opsO len k s b n, scO g (slO len), bO m f, roomO g])).mapO (viewD 96 (vselD ⟨[1, 6, 46, 47, 48], [.id 0, .of 1, .of 6, .of 46]⟩ ⟨[2, 3], []⟩ ⟨[], []⟩)) =
    .leaf ⟨.normal, [.ptr 1 (.c 0), .sl 2 (.c 0) ⟨false, m⟩ 1, .sl 3 (.c 0) ⟨true, 6⟩ 1, .int .i64 true 6, .int .i64 true 0], [opsO len k s b n, scO g (slO len), bO m f, l6O g len]⟩ := by kernel_rfl
theorem hb_it0 (g : SetD) (len : Nat) (k s : Nat → Int) (b : Nat → ByteArray) (n : Nat → Int) (m : Nat) (f : Nat → Int) (j : Nat → Value) :
    (evalS E4 S4 1000 (loopB (blockB (seqR (seqL (postC 4 hbC))))) (mkA 96 ([1, 6, 46, 47, 48].zip [.ptr 1 (.c 0), .sl 2 (.c 0) ⟨false, m⟩ 1, .sl 3 (.c 0) ⟨true, 6⟩ 1, .int .i64 true 6, .int .i64 true 0]) j) (mkH [opsO len k s b n, scO g (slO len), bO m f, l6O g len])).mapO (viewD 96 (vselD ⟨[1, 6, 46, 47, 48], [.id 0, .of 1, .of 6, .of 46]⟩ ⟨[2, 3], []⟩ ⟨[1, 6], [.id 0, .of 1, .of 6]⟩)) =
    putT m f (fun m' f' => .leaf ⟨.normal, [.ptr 1 (.c 0), .sl 2 (.c 0) ⟨false, m'⟩ 1, .sl 3 (.c 0) ⟨true, 6⟩ 1, .int .i64 true 6, .int .i64 true 1], [opsO len k s b n, scO g (slO len), bO m' f', l6O g len]⟩) (be4 (IntKind.u64.wrap g.most)) := by kernel_rfl
theorem hb_it1 (g : SetD) (len : Nat) (k s : Nat → Int) (b : Nat → ByteArray) (n : Nat → Int) (m : Nat) (f : Nat → Int) (j : Nat → Value) :
    (evalS E4 S4 1000 (loopB (blockB (seqR (seqL (postC 4 hbC))))) (mkA 96 ([1, 6, 46, 47, 48].zip [.ptr 1 (.c 0), .sl 2 (.c 0) ⟨false, m⟩ 1, .sl 3 (.c 0) ⟨true, 6⟩ 1, .int .i64 true 6, .int .i64 true 1]) j) (mkH [opsO len k s b n, scO g (slO len), bO m f, l6O g len])).mapO (viewD 96 (vselD ⟨[1, 6, 46, 47, 48], [.id 0, .of 1, .of 6, .of 46]⟩ ⟨[2, 3], []⟩ ⟨[1, 6], [.id 0, .of 1, .of 6]⟩)) =
    putT m f (fun m' f' => .leaf ⟨.normal, [.ptr 1 (.c 0), .sl 2 (.c 0) ⟨false, m'⟩ 1, .sl 3 (.c 0) ⟨true, 6⟩ 1, .int .i64 true 6, .int .i64 true 2], [opsO len k s b n, scO g (slO len), bO m' f', l6O g len]⟩) (be4 (IntKind.u64.wrap g.rounds)) := by kernel_rfl
theorem hb_it2 (g : SetD) (len : Nat) (k s : Nat → Int) (b : Nat → ByteArray) (n : Nat → Int) (m : Nat) (f : Nat → Int) (j : Nat → Value) :
    (evalS E4 S4 1000 (loopB (blockB (seqR (seqL (postC 4 hbC))))) (mkA 96 ([1, 6, 46, 47, 48].zip [.ptr 1 (.c 0), .sl 2 (.c 0) ⟨false, m⟩ 1, .sl 3 (.c 0) ⟨true, 6⟩ 1, .int .i64 true 6, .int .i64 true 2]) j) (mkH [opsO len k s b n, scO g (slO len), bO m f, l6O g len])).mapO (viewD 96 (vselD ⟨[1, 6, 46, 47, 48], [.id 0, .of 1, .of 6, .of 46]⟩ ⟨[2, 3], []⟩ ⟨[1, 6], [.id 0, .of 1, .of 6]⟩)) =
    putT m f (fun m' f' => .leaf ⟨.normal, [.ptr 1 (.c 0), .sl 2 (.c 0) ⟨false, m'⟩ 1, .sl 3 (.c 0) ⟨true, 6⟩ 1, .int .i64 true 6, .int .i64 true 3], [opsO len k s b n, scO g (slO len), bO m' f', l6O g len]⟩) (be4 (IntKind.u64.wrap g.sess)) := by kernel_rfl
theorem hb_it3 (g : SetD) (len : Nat) (k s : Nat → Int) (b : Nat → ByteArray) (n : Nat → Int) (m : Nat) (f : Nat → Int) (j : Nat → Value) :
    (evalS E4 S4 1000 (loopB (blockB (seqR (seqL (postC 4 hbC))))) (mkA 96 ([1, 6, 46, 47, 48].zip [.ptr 1 (.c 0), .sl 2 (.c 0) ⟨false, m⟩ 1, .sl 3 (.c 0) ⟨true, 6⟩ 1, .int .i64 true 6, .int .i64 true 3]) j) (mkH [opsO len k s b n, scO g (slO len), bO m f, l6O g len])).mapO (viewD 96 (vselD ⟨[1, 6, 46, 47, 48], [.id 0, .of 1, .of 6, .of 46]⟩ ⟨[2, 3], []⟩ ⟨[1, 6], [.id 0, .of 1, .of 6]⟩)) =
    putT m f (fun m' f' => .leaf ⟨.normal, [.ptr 1 (.c 0), .sl 2 (.c 0) ⟨false, m'⟩ 1, .sl 3 (.c 0) ⟨true, 6⟩ 1, .int .i64 true 6, .int .i64 true 4], [opsO len k s b n, scO g (slO len), bO m' f', l6O g len]⟩) (be4 (IntKind.u64.wrap g.staged)) := by kernel_rfl
theorem hb_it4 (g : SetD) (len : Nat) (k s : Nat → Int) (b : Nat → ByteArray) (n : Nat → Int) (m : Nat) (f : Nat → Int) (j : Nat → Value) :
    (evalS E4 S4 1000 (loopB (blockB (seqR (seqL (postC 4 hbC))))) (mkA 96 ([1, 6, 46, 47, 48].zip [.ptr 1 (.c 0), .sl 2 (.c 0) ⟨false, m⟩ 1, .sl 3 (.c 0) ⟨true, 6⟩ 1, .int .i64 true 6, .int .i64 true 4]) j) (mkH [opsO len k s b n, scO g (slO len), bO m f, l6O g len])).mapO (viewD 96 (vselD ⟨[1, 6, 46, 47, 48], [.id 0, .of 1, .of 6, .of 46]⟩ ⟨[2, 3], []⟩ ⟨[1, 6], [.id 0, .of 1, .of 6]⟩)) =
    putT m f (fun m' f' => .leaf ⟨.normal, [.ptr 1 (.c 0), .sl 2 (.c 0) ⟨false, m'⟩ 1, .sl 3 (.c 0) ⟨true, 6⟩ 1, .int .i64 true 6, .int .i64 true 5], [opsO len k s b n, scO g (slO len), bO m' f', l6O g len]⟩) (be4 (IntKind.u64.wrap g.queue)) := by kernel_rfl
theorem hb_it5 (g : SetD) (len : Nat) (k s : Nat → Int) (b : Nat → ByteArray) (n : Nat → Int) (m : Nat) (f : Nat → Int) (j : Nat → Value) :
    (evalS E4 S4 1000 (loopB (blockB (seqR (seqL (postC 4 hbC))))) (mkA 96 ([1, 6, 46, 47, 48].zip [.ptr 1 (.c 0), .sl 2 (.c 0) ⟨false, m⟩ 1, .sl 3 (.c 0) ⟨true, 6⟩ 1, .int .i64 true 6, .int .i64 true 5]) j) (mkH [opsO len k s b n, scO g (slO len), bO m f, l6O g len])).mapO (viewD 96 (vselD ⟨[1, 6, 46, 47, 48], [.id 0, .of 1, .of 6, .of 46]⟩ ⟨[2, 3], []⟩ ⟨[1, 6], [.id 0, .of 1, .of 6]⟩)) =
    putT m f (fun m' f' => .leaf ⟨.normal, [.ptr 1 (.c 0), .sl 2 (.c 0) ⟨false, m'⟩ 1, .sl 3 (.c 0) ⟨true, 6⟩ 1, .int .i64 true 6, .int .i64 true 6], [opsO len k s b n, scO g (slO len), bO m' f', l6O g len]⟩) (be4 (IntKind.u64.wrap len)) := by kernel_rfl
theorem hb_it6 (g : SetD) (len : Nat) (k s : Nat → Int) (b : Nat → ByteArray) (n : Nat → Int) (m : Nat) (f : Nat → Int) (j : Nat → Value) :
    (evalS E4 S4 1000 (loopB (blockB (seqR (seqL (postC 4 hbC))))) (mkA 96 ([1, 6, 46, 47, 48].zip [.ptr 1 (.c 0), .sl 2 (.c 0) ⟨false, m⟩ 1, .sl 3 (.c 0) ⟨true, 6⟩ 1, .int .i64 true 6, .int .i64 true 6]) j) (mkH [opsO len k s b n, scO g (slO len), bO m f, l6O g len])).mapO (viewD 96 (vselD ⟨[1, 6, 46, 47, 48], [.id 0, .of 1, .of 6, .of 46]⟩ ⟨[2, 3], []⟩ ⟨[1, 6], [.id 0, .of 1, .of 6]⟩)) =
    .leaf ⟨.exit 0, [.ptr 1 (.c 0), .sl 2 (.c 0) ⟨false, m⟩ 1], [opsO len k s b n, scO g (slO len), bO m f]⟩ := by kernel_rfl
theorem hb_r11 (g : SetD) (len : Nat) (k s : Nat → Int) (b : Nat → ByteArray) (n : Nat → Int) (m : Nat) (f : Nat → Int) (j : Nat → Value) :
    (evalS E4 S4 1000 (seqL (seqL (seqR (postC 4 hbC)))) (mkA 96 ([1, 6].zip [.ptr 1 (.c 0), .sl 2 (.c 0) ⟨false, m⟩ 1]) j) (mkH [opsO len k s b n, scO g (slO len), bO m f])).mapO (viewD 96 (vselD ⟨[6, 58, 59, 60], [.id 0, .of 6]⟩ ⟨[2, 3], []⟩ ⟨[], []⟩)) =
    .leaf ⟨.normal, [.sl 1 (.c 0) ⟨false, m⟩ 1, slO len, .int .i64 false len, .int .i64 true 0], [opsO len k s b n, bO m f]⟩ := by kernel_rfl
noncomputable abbrev hbN (len : Nat) (k s : Nat → Int) (b : Nat → ByteArray) (n : Nat → Int) (i : Nat) (m' : Nat) (f' : Nat → Int) : Tree View := .leaf ⟨.normal, [.sl 1 (.c 0) ⟨false, m'⟩ 1, slO len, .int .i64 false len, .int .i64 false (IntKind.i64.wrap ((i : Int) + 1))], [opsO len k s b n, bO m' f']⟩
theorem hb_body (len : Nat) (k s : Nat → Int) (b : Nat → ByteArray) (n : Nat → Int) (m : Nat) (f : Nat → Int) (i : Nat) (j : Nat → Value) :
    (evalS E4 S4 1000 (loopB (blockB (seqR (seqL (seqR (postC 4 hbC)))))) (mkA 96 ([6, 58, 59, 60].zip [.sl 1 (.c 0) ⟨false, m⟩ 1, slO len, .int .i64 false len, .int .i64 false i]) j) (mkH [opsO len k s b n, bO m f])).mapO (viewD 96 (vselD ⟨[6, 58, 59, 60], [.id 0, .of 6]⟩ ⟨[2, 3], []⟩ ⟨[6], [.id 0, .of 6]⟩)) =
    .node (decide ((i : Int) < (len : Int))) (.node (decide ((0 : Int) ≤ (i : Int)) && (i : Int).toNat.blt len) (.node (i.blt len)
      (.node (Nat.ble (m + 2) 70368744177664 && capRoom (m + 2) 1) (.node (Nat.ble (Nat.div 0 1 + m) m)
        (.node (k i == (3 : Int))
          (putT (m + 2) (ap2 m f (IntKind.u8.wrap (k i)) (IntKind.u8.wrap (s i))) (fun m' f' => .node (Nat.beq (b i).size 0) (hbN len k s b n i m' f') (.node (Nat.ble (m' + (b i).size) 70368744177664 && capRoom (m' + (b i).size) 1) (.node (Nat.ble (Nat.div 0 1 + m') m') (hbN len k s b n i (m' + (b i).size) (apS m' f' (b i))) .fail) .fail)) (be4 (IntKind.u64.wrap ((b i).size : Int))))
          (.node (k i == (4 : Int))
            (putT (m + 2) (ap2 m f (IntKind.u8.wrap (k i)) (IntKind.u8.wrap (s i))) (hbN len k s b n i) (be4 (IntKind.u64.wrap (n i))))
            (hbN len k s b n i (m + 2) (ap2 m f (IntKind.u8.wrap (k i)) (IntKind.u8.wrap (s i)))))) .fail) .fail) .fail) .fail)
      (.leaf ⟨.exit 2, [.sl 1 (.c 0) ⟨false, m⟩ 1], [opsO len k s b n, bO m f]⟩) := by kernel_rfl
theorem hb_fin (len : Nat) (k s : Nat → Int) (b : Nat → ByteArray) (n : Nat → Int) (m : Nat) (f : Nat → Int) (j : Nat → Value) :
    (evalS E4 S4 1000 (seqR (seqR (postC 4 hbC))) (mkA 96 ([6].zip [.sl 1 (.c 0) ⟨false, m⟩ 1]) j) (mkH [opsO len k s b n, bO m f])).mapO (viewD 96 (vselD ⟨[], []⟩ ⟨[2, 3], []⟩ ⟨[], []⟩)) =
    .node (Nat.ble (Nat.div 0 1 + m) m) (.leaf ⟨.ret, [.str false (strOfF m f), .int .i64 true 0], []⟩) .fail := by kernel_rfl
end Go.Ev
end
section
set_option maxRecDepth 100000
namespace Go.Ev
open Go.Proofs Go.RowKit
noncomputable section
/-- The bytes of an op; of a script. -/
def opB (o : OpD) : List UInt8 := [u8 (IntKind.u8.wrap o.k), u8 (IntKind.u8.wrap o.s)] ++ (if o.k = 3 then (be4 (IntKind.u64.wrap (o.b.size : Int))).map u8 ++ o.b.data.toList else if o.k = 4 then (be4 (IntKind.u64.wrap o.n)).map u8 else [])
def l6 (g : SetD) (n : Int) : List Int := [g.most, g.rounds, g.sess, g.staged, g.queue, n]
def enc4 (l : List Int) : List UInt8 := l.flatMap fun v => (be4 (IntKind.u64.wrap v)).map u8
def hdB (g : SetD) : List UInt8 := (hd27 g (fl g.gxf) (fl g.gyf) (fl g.dtf)).map u8
def encB (g : SetD) (ops : List OpD) : List UInt8 := hdB g ++ enc4 (l6 g ops.length) ++ ops.flatMap opB
def hbV (g : SetD) (ops : List OpD) : Value := if checkR csV opV g ops = 0 then .tuple #[.string ⟨(encB g ops).toArray⟩, .int .i64 0] else .tuple #[.string ⟨#[]⟩, .int .i64 (checkR csV opV g ops)]
end
theorem strOfF_bL (m : Nat) (f : Nat → Int) : strOfF m f = ⟨(bL m f).toArray⟩ := rfl
theorem lensR_le : ∀ (l : List OpD) (acc : Nat), acc ≤ 65536 → lensR acc l = false → acc + sumN l ≤ 65536
  | [], acc, h, _ => by simpa [sumN] using h
  | o :: l, acc, h, hl => by
    rw [lensR, Go.IntWalk.i64_in (65536 - acc) ⟨by omega, by omega⟩] at hl
    by_cases hb : (65536 : Int) - acc < (o.b.size : Int)
    · rw [if_pos hb] at hl; cases hl
    · rw [if_neg hb, Go.IntWalk.i64_in _ ⟨by omega, by omega⟩, show ((acc : Int) + (o.b.size : Int)) = ((acc + o.b.size : Nat) : Int) by omega] at hl
      have := lensR_le l (acc + o.b.size) (by omega) hl
      rw [sumN]
      omega
theorem check_ok {g : SetD} {l : List OpD} (h : checkR csV opV g l = 0) : l.length ≤ 400 ∧ sumN l ≤ 65536 := by
  unfold checkR at h
  by_cases h0 : csV g = 0
  · rw [if_pos h0] at h
    by_cases h1 : 400 < l.length
    · rw [if_pos h1] at h; cases h
    · rw [if_neg h1] at h
      cases h2 : lensR 0 l with
      | true => rw [h2, if_pos rfl] at h; cases h
      | false =>
        have := lensR_le l 0 (by omega) h2
        omega
  · rw [if_neg h0] at h; exact absurd h h0
theorem hb_end {ρ0 : Emb} {w : World} (hro : ∀ i g, ρ0 i = .img g → g.rw = false) (v : ByteArray) (e : Int) (l l2 : Bool) (u : Value) (b1 : Act) (w1 : World) (st : StL ρ0 w 96 [(2, .str l v), (3, .int .i64 l2 e)] [] b1 w1) (hu : u = .tuple #[.string v, .int .i64 e]) :
    Leaves E4.P hbF b1.tmps (fun e w' => e = .returned u ∧ Below w.heap.size w w') b1.defers .returning w1 := by
  subst hu
  refine StL.finish (vs := [.str l v, .int .i64 l2 e]) (fun j => by kernel_rfl) st fun ρ v' rv _ fr => ?_
  have := plainR_eq (v := .tuple #[.string v, .int .i64 e]) rfl rv
  exact ⟨by rw [this], below_of_ro hro fr⟩
theorem hb_loop2 (g : SetD) (len : Nat) (k s : Nat → Int) (b : Nat → ByteArray) (n : Nat → Int) {ρ0 : Emb} {w : World} (hlen : len ≤ 70368744177664) (hro : ∀ i g, ρ0 i = .img g → g.rw = false) (hck : checkR csV opV g (opsL len k s b n) = 0) (m0 : Nat) (f0 : Nat → Int) (hm0 : m0 = 51)
    (hf0 : bL m0 f0 = hdB g ++ enc4 (l6 g len)) (b1 : Act) (w1 : World) (st : StL ρ0 w 96 ([1, 6].zip [.ptr 1 (.c 0), .sl 2 (.c 0) ⟨false, m0⟩ 1]) [opsO len k s b n, scO g (slO len), bO m0 f0] b1 w1) :
    Code.wp E4.P (seqR (postC 4 hbC)) (bodyPostD E4.P hbF (fun e w' => e = .returned (hbV g (opsL len k s b n)) ∧ Below w.heap.size w w')) b1 w1 := by
  obtain ⟨hl4, hsum⟩ := check_ok hck
  rw [opsL_length] at hl4
  refine wp_seqP (by kernel_rfl) ?_
  refine wp_seqP (by kernel_rfl) ?_
  refine StL.pieceD sound4 thom4 1000 (by decide) (by kernel_rfl) (hb_r11 g len k s b n m0 f0) st ?_
  refine Holds.leaf ⟨rfl, fun b2 w2 st => ?_⟩
  show Code.wp E4.P (seqR (seqL (seqR (postC 4 hbC)))) _ b2 w2
  refine wp_blockP (by kernel_rfl) ?_
  refine wp_loopP (by kernel_rfl) (fun M x w' => ∃ (i m : Nat) (f : Nat → Int), M = len - i ∧ i ≤ len ∧ m + 6 * (len - i) + sumN ((opsL len k s b n).drop i) ≤ 100000 ∧ encB g (opsL len k s b n) = bL m f ++ ((opsL len k s b n).drop i).flatMap opB ∧
    StL ρ0 w 96 ([6, 58, 59, 60].zip [.sl 1 (.c 0) ⟨false, m⟩ 1, slO len, .int .i64 false len, .int .i64 false i]) [opsO len k s b n, bO m f] x w') ?_ ⟨0, m0, f0, rfl, Nat.zero_le _, by rw [List.drop_zero]; omega, by rw [hf0, List.drop_zero, encB, opsL_length], st.conv rfl rfl⟩
  rintro _ b3 w3 ⟨i, m, f, rfl, hi, hm, hacc, st⟩
  refine StL.pieceD sound4 thom4 1000 (by decide) (by kernel_rfl) (hb_body len k s b n m f i) st ?_
  refine Holds.node (fun h2 => ?_) fun h2 => ?_
  · have hlt : i < len := by simpa using h2
    have hblt : i.blt len = true := blt_true hlt
    rw [opsL_drop hlt, sumN] at hm
    rw [opsL_drop hlt, List.flatMap_cons] at hacc
    simp only at hm
    have next : ∀ (m' : Nat) (f' : Nat → Int), m' ≤ m + 6 + (b i).size → bL m' f' = bL m f ++ opB ⟨k i, s i, b i, n i⟩ → ∀ b4 w4, StL ρ0 w 96 ([6, 58, 59, 60].zip [.sl 1 (.c 0) ⟨false, m'⟩ 1, slO len, .int .i64 false len, .int .i64 false (IntKind.i64.wrap ((i : Int) + 1))]) [opsO len k s b n, bO m' f'] b4 w4 →
        ∃ M, M < len - i ∧ ∃ (i' m' : Nat) (f : Nat → Int), M = len - i' ∧ i' ≤ len ∧ m' + 6 * (len - i') + sumN ((opsL len k s b n).drop i') ≤ 100000 ∧ encB g (opsL len k s b n) = bL m' f ++ ((opsL len k s b n).drop i').flatMap opB ∧
          StL ρ0 w 96 ([6, 58, 59, 60].zip [.sl 1 (.c 0) ⟨false, m'⟩ 1, slO len, .int .i64 false len, .int .i64 false i']) [opsO len k s b n, bO m' f] b4 w4 := by
      intro m' f' hm' hf' b4 w4 st
      refine ⟨len - (i + 1), by omega, i + 1, m', f', rfl, hlt, by omega, ?_, st.conv ?_ rfl⟩
      · rw [hacc, hf', List.append_assoc]
      · simp only [dens, SV.den, wrap_succ hlt hlen]
    refine Holds.yesB (by simp [hblt]) (Holds.yesB hblt (Holds.yesB (capB (by omega)) (Holds.yesB (bleB m) (Holds.node (fun h3 => ?_) fun h3 => ?_))))
    · have h3 : k i = 3 := by simpa using h3
      refine Holds.put _ _ _ (by simp; omega) ?_
      have e4 : apN (m + 2) (be4 (IntKind.u64.wrap ((b i).size : Int))) = m + 6 := by rw [apN_eq]; rfl
      refine Holds.node (fun h5 => ?_) fun h5 => ?_
      · have h5 : (b i).size = 0 := Nat.eq_of_beq_eq_true h5
        refine .leaf ⟨rfl, fun b4 w4 st => next _ _ (by omega) ?_ b4 w4 st⟩
        rw [bL_apF, bL_ap2, List.append_assoc]
        have hd : (b i).data.toList = [] := List.length_eq_zero_iff.1 (by rw [Array.length_toList]; exact h5)
        simp [opB, h3, hd]
      · refine Holds.yesB (capB (by omega)) (Holds.yesB (bleB _) ?_)
        refine .leaf ⟨rfl, fun b4 w4 st => next _ _ (by omega) ?_ b4 w4 st⟩
        rw [bL_apS, bL_apF, bL_ap2]
        simp [opB, h3]
    · have h3 : k i ≠ 3 := by simpa using h3
      refine Holds.node (fun h4 => ?_) fun h4 => ?_
      · have h4 : k i = 4 := by simpa using h4
        refine Holds.put _ _ _ (by simp; omega) ?_
        have e4 : apN (m + 2) (be4 (IntKind.u64.wrap (n i))) = m + 6 := by rw [apN_eq]; rfl
        refine .leaf ⟨rfl, fun b4 w4 st => next _ _ (by omega) ?_ b4 w4 st⟩
        rw [bL_apF, bL_ap2]
        simp [opB, h4]
      · have h4 : k i ≠ 4 := by simpa using h4
        refine .leaf ⟨rfl, fun b4 w4 st => next _ _ (by omega) ?_ b4 w4 st⟩
        rw [bL_ap2]
        simp [opB, h3, h4]
  · have hge : i = len := by simp at h2; omega
    refine .leaf ⟨rfl, fun b4 w4 st => ?_⟩
    show Code.wp E4.P (seqR (seqR (postC 4 hbC))) _ b4 w4
    refine StL.pieceD sound4 thom4 1000 (by decide) (by kernel_rfl) (hb_fin len k s b n m f) st ?_
    refine Holds.yesB (bleB m) (.leaf ⟨rfl, fun b9 w9 st => hb_end hro _ _ _ _ _ b9 w9 st ?_⟩)
    rw [hge, List.drop_eq_nil_of_le (by rw [opsL_length]; exact Nat.le_refl _), List.flatMap_nil, List.append_nil] at hacc
    rw [hbV, if_pos hck, hacc, strOfF_bL]
end Go.Ev
end
section
set_option maxRecDepth 100000
namespace Go.Ev
open Go.Proofs Go.RowKit
theorem bleQ (x : Nat) : Nat.ble (Nat.div 0 4 + x) x = true := Nat.ble_eq_true_of_le (show 0 + x ≤ x by omega)
theorem enc4_take (l : List Int) (i : Nat) (v : Int) (h : l[i]? = some v) : enc4 (l.take (i + 1)) = enc4 (l.take i) ++ (be4 (IntKind.u64.wrap v)).map u8 := by
  unfold enc4
  rw [List.take_add_one, h, List.flatMap_append]
  congr 1
theorem hb_loop1 (g : SetD) (len : Nat) (k s : Nat → Int) (b : Nat → ByteArray) (n : Nat → Int) {ρ0 : Emb} {w : World} (hlen : len ≤ 70368744177664) (hro : ∀ i g, ρ0 i = .img g → g.rw = false) (hck : checkR csV opV g (opsL len k s b n) = 0) (f0 : Nat → Int)
    (hf0 : bL 27 f0 = hdB g) (b1 : Act) (w1 : World) (st : StL ρ0 w 96 ([1, 6, 5].zip [.ptr 1 (.c 0), .sl 2 (.c 0) ⟨false, 27⟩ 1, .ptr 3 (.c 0)]) [opsO len k s b n, scO g (slO len), bO 27 f0, roomO g] b1 w1) :
    (postC 4 hbC).wp E4.P (bodyPostD E4.P hbF (fun e w' => e = .returned (hbV g (opsL len k s b n)) ∧ Below w.heap.size w w')) b1 w1 := by
  refine wp_seqP (by kernel_rfl) ?_
  refine wp_seqP (by kernel_rfl) ?_
  refine StL.pieceD sound4 thom4 1000 (by decide) (by kernel_rfl) (hb_r6 g len k s b n 27 f0) st ?_
  refine Holds.leaf ⟨rfl, fun b2 w2 st => ?_⟩
  show Code.wp E4.P (seqR (seqL (postC 4 hbC))) _ b2 w2
  refine wp_blockP (by kernel_rfl) ?_
  refine wp_loopP (by kernel_rfl) (fun M x w' => ∃ (i m : Nat) (f : Nat → Int), M = 6 - i ∧ i ≤ 6 ∧ m = 27 + 4 * i ∧ bL m f = hdB g ++ enc4 ((l6 g len).take i) ∧
    StL ρ0 w 96 ([1, 6, 46, 47, 48].zip [.ptr 1 (.c 0), .sl 2 (.c 0) ⟨false, m⟩ 1, .sl 3 (.c 0) ⟨true, 6⟩ 1, .int .i64 true 6, .int .i64 false i]) [opsO len k s b n, scO g (slO len), bO m f, l6O g len] x w') ?_ ⟨0, 27, f0, rfl, by omega, rfl, by rw [hf0]; simp [enc4], st.conv rfl rfl⟩
  rintro _ b3 w3 ⟨i, m, f, rfl, hi, hm, hf, st⟩
  have hcase : i = 0 ∨ i = 1 ∨ i = 2 ∨ i = 3 ∨ i = 4 ∨ i = 5 ∨ i = 6 := by omega
  rcases hcase with rfl | rfl | rfl | rfl | rfl | rfl | rfl
  · refine StL.pieceD sound4 thom4 1000 (by decide) (by kernel_rfl) (hb_it0 g len k s b n m f) (st.conv rfl rfl) ?_
    refine Holds.put _ m f (by simp only [List.length_cons, List.length_nil]; omega) ?_
    refine .leaf ⟨rfl, fun b4 w4 st => ⟨6 - 1, by omega, 1, _, _, rfl, by omega, ?_, ?_, st.conv rfl rfl⟩⟩
    · rw [apN_eq, hm]; rfl
    · rw [bL_apF, hf, List.append_assoc, enc4_take _ 0 _ rfl]
  · refine StL.pieceD sound4 thom4 1000 (by decide) (by kernel_rfl) (hb_it1 g len k s b n m f) (st.conv rfl rfl) ?_
    refine Holds.put _ m f (by simp only [List.length_cons, List.length_nil]; omega) ?_
    refine .leaf ⟨rfl, fun b4 w4 st => ⟨6 - 2, by omega, 2, _, _, rfl, by omega, ?_, ?_, st.conv rfl rfl⟩⟩
    · rw [apN_eq, hm]; rfl
    · rw [bL_apF, hf, List.append_assoc, enc4_take _ 1 _ rfl]
  · refine StL.pieceD sound4 thom4 1000 (by decide) (by kernel_rfl) (hb_it2 g len k s b n m f) (st.conv rfl rfl) ?_
    refine Holds.put _ m f (by simp only [List.length_cons, List.length_nil]; omega) ?_
    refine .leaf ⟨rfl, fun b4 w4 st => ⟨6 - 3, by omega, 3, _, _, rfl, by omega, ?_, ?_, st.conv rfl rfl⟩⟩
    · rw [apN_eq, hm]; rfl
    · rw [bL_apF, hf, List.append_assoc, enc4_take _ 2 _ rfl]
  · refine StL.pieceD sound4 thom4 1000 (by decide) (by kernel_rfl) (hb_it3 g len k s b n m f) (st.conv rfl rfl) ?_
    refine Holds.put _ m f (by simp only [List.length_cons, List.length_nil]; omega) ?_
    refine .leaf ⟨rfl, fun b4 w4 st => ⟨6 - 4, by omega, 4, _, _, rfl, by omega, ?_, ?_, st.conv rfl rfl⟩⟩
    · rw [apN_eq, hm]; rfl
    · rw [bL_apF, hf, List.append_assoc, enc4_take _ 3 _ rfl]
  · refine StL.pieceD sound4 thom4 1000 (by decide) (by kernel_rfl) (hb_it4 g len k s b n m f) (st.conv rfl rfl) ?_
    refine Holds.put _ m f (by simp only [List.length_cons, List.length_nil]; omega) ?_
    refine .leaf ⟨rfl, fun b4 w4 st => ⟨6 - 5, by omega, 5, _, _, rfl, by omega, ?_, ?_, st.conv rfl rfl⟩⟩
    · rw [apN_eq, hm]; rfl
    · rw [bL_apF, hf, List.append_assoc, enc4_take _ 4 _ rfl]
  · refine StL.pieceD sound4 thom4 1000 (by decide) (by kernel_rfl) (hb_it5 g len k s b n m f) (st.conv rfl rfl) ?_
    refine Holds.put _ m f (by simp only [List.length_cons, List.length_nil]; omega) ?_
    refine .leaf ⟨rfl, fun b4 w4 st => ⟨6 - 6, by omega, 6, _, _, rfl, by omega, ?_, ?_, st.conv rfl rfl⟩⟩
    · rw [apN_eq, hm]; rfl
    · rw [bL_apF, hf, List.append_assoc, enc4_take _ 5 _ rfl]
  · refine StL.pieceD sound4 thom4 1000 (by decide) (by kernel_rfl) (hb_it6 g len k s b n m f) (st.conv rfl rfl) ?_
    refine Holds.leaf ⟨rfl, fun b4 w4 st => ?_⟩
    exact hb_loop2 g len k s b n hlen hro hck m f (by omega) hf b4 w4 st
theorem hdF_bL (l : List Int) (n : Nat) (h : l.length = n) : bL n (hdF l) = l.map u8 := by
  subst h
  unfold bL hdF
  apply List.ext_getElem?
  intro i
  rw [List.getElem?_map, List.getElem?_map]
  by_cases hi : i < l.length
  · rw [List.getElem?_range hi, List.getElem?_eq_getElem hi]
    simp [List.getD_eq_getElem?_getD, List.getElem?_eq_getElem hi]
  · rw [List.getElem?_eq_none (by simpa using hi), List.getElem?_eq_none (by omega)]
    rfl
theorem hb_arr (g : SetD) (len : Nat) (k s : Nat → Int) (b : Nat → ByteArray) (n : Nat → Int) {ρ0 : Emb} {w : World} {args' : Array Value} (hlen : len ≤ 70368744177664) (hro : ∀ i g, ρ0 i = .img g → g.rw = false)
    (wr : WRel ρ0 (mkH [opsO len k s b n]).den w) (ra : VsRel ρ0 (dens [scrS g (slO len)]) args'.toList) :
    Calls E4.P 13 args' w fun e w' => e = .returned (hbV g (opsL len k s b n)) ∧ Below w.heap.size w w' := by
  refine calls_StL hbF_some hbC_some hbF_n (by decide) (by simp) wr ra fun bb st => ?_
  refine StL.preD sound4 thom4 1000 3 (by decide) hbC_plans (by kernel_rfl) (hb_pre g len k s b n) st ?_
  refine Holds.yesB (bleQ len) (Holds.yesB (Nat.ble_eq_true_of_le hlen) (Holds.node (fun h0 => ?_) fun h0 => ?_))
  · have h0 : checkR csV opV g (opsL len k s b n) ≠ 0 := by simpa using h0
    exact .leaf ⟨rfl, fun b1 w1 st => hb_end hro _ _ _ _ _ b1 w1 st (by rw [hbV, if_neg h0])⟩
  have hck : checkR csV opV g (opsL len k s b n) = 0 := by simpa using h0
  refine Holds.node (fun h1 => Holds.node (fun h2 => Holds.node (fun h3 => ?_) fun h3 => ?_) fun h2 => Holds.node (fun h3 => ?_) fun h3 => ?_) fun h1 => Holds.node (fun h2 => Holds.node (fun h3 => ?_) fun h3 => ?_) fun h2 => Holds.node (fun h3 => ?_) fun h3 => ?_
  · refine .leaf ⟨rfl, fun b1 w1 st => ?_⟩
    exact hb_loop1 g len k s b n hlen hro hck (hdF (hd27 g 1 1 1)) (by rw [hdF_bL _ 27 rfl, hdB, h1, h2, h3]; rfl) b1 w1 (st.conv rfl (by kernel_rfl))
  · refine .leaf ⟨rfl, fun b1 w1 st => ?_⟩
    exact hb_loop1 g len k s b n hlen hro hck (hdF (hd27 g 1 1 0)) (by rw [hdF_bL _ 27 rfl, hdB, h1, h2, h3]; rfl) b1 w1 (st.conv rfl (by kernel_rfl))
  · refine .leaf ⟨rfl, fun b1 w1 st => ?_⟩
    exact hb_loop1 g len k s b n hlen hro hck (hdF (hd27 g 1 0 1)) (by rw [hdF_bL _ 27 rfl, hdB, h1, h2, h3]; rfl) b1 w1 (st.conv rfl (by kernel_rfl))
  · refine .leaf ⟨rfl, fun b1 w1 st => ?_⟩
    exact hb_loop1 g len k s b n hlen hro hck (hdF (hd27 g 1 0 0)) (by rw [hdF_bL _ 27 rfl, hdB, h1, h2, h3]; rfl) b1 w1 (st.conv rfl (by kernel_rfl))
  · refine .leaf ⟨rfl, fun b1 w1 st => ?_⟩
    exact hb_loop1 g len k s b n hlen hro hck (hdF (hd27 g 0 1 1)) (by rw [hdF_bL _ 27 rfl, hdB, h1, h2, h3]; rfl) b1 w1 (st.conv rfl (by kernel_rfl))
  · refine .leaf ⟨rfl, fun b1 w1 st => ?_⟩
    exact hb_loop1 g len k s b n hlen hro hck (hdF (hd27 g 0 1 0)) (by rw [hdF_bL _ 27 rfl, hdB, h1, h2, h3]; rfl) b1 w1 (st.conv rfl (by kernel_rfl))
  · refine .leaf ⟨rfl, fun b1 w1 st => ?_⟩
    exact hb_loop1 g len k s b n hlen hro hck (hdF (hd27 g 0 0 1)) (by rw [hdF_bL _ 27 rfl, hdB, h1, h2, h3]; rfl) b1 w1 (st.conv rfl (by kernel_rfl))
  · refine .leaf ⟨rfl, fun b1 w1 st => ?_⟩
    exact hb_loop1 g len k s b n hlen hro hck (hdF (hd27 g 0 0 0)) (by rw [hdF_bL _ 27 rfl, hdB, h1, h2, h3]; rfl) b1 w1 (st.conv rfl (by kernel_rfl))
end Go.Ev
end
section
set_option maxRecDepth 100000
namespace Go.Ev
open Go.Proofs Go.RowKit
/-! history.Bytes: no ops -/
noncomputable abbrev l6N (g : SetD) : SObj := .cells [.int .i64 false g.most, .int .i64 false g.rounds, .int .i64 false g.sess, .int .i64 false g.staged, .int .i64 false g.queue, .int .i64 true 0] true
theorem hn_pre (g : SetD) (j : Nat → Value) : (evalS E4 S4 1000 (preC 4 hbC) (mkA 96 (argL [scrS g nilO]) j) (mkH [])).mapO (viewD 96 (vselD ⟨[1, 6, 5], [.of 1, .of 6, .of 5]⟩ ⟨[2, 3], []⟩ ⟨[], []⟩)) = hbT g nilO [] 0 [] := by kernel_rfl
theorem hn_r6 (g : SetD) (m : Nat) (f : Nat → Int) (j : Nat → Value) :
    (evalS E4 S4 1000 (seqL (seqL (postC 4 hbC))) (mkA 96 ([1, 6, 5].zip [.ptr 0 (.c 0), .sl 1 (.c 0) ⟨false, m⟩ 1, .ptr 2 (.c 0)]) j) (mkH [scO g nilO, bO m f, roomO g])).mapO (viewD 96 (vselD ⟨[1, 6, 46, 47, 48], [.of 1, .of 6, .of 46]⟩ ⟨[2, 3], []⟩ ⟨[], []⟩)) =
    .leaf ⟨.normal, [.ptr 0 (.c 0), .sl 1 (.c 0) ⟨false, m⟩ 1, .sl 2 (.c 0) ⟨true, 6⟩ 1, .int .i64 true 6, .int .i64 true 0], [scO g nilO, bO m f, l6N g]⟩ := by kernel_rfl
theorem hn_it0 (g : SetD) (m : Nat) (f : Nat → Int) (j : Nat → Value) :
    (evalS E4 S4 1000 (loopB (blockB (seqR (seqL (postC 4 hbC))))) (mkA 96 ([1, 6, 46, 47, 48].zip [.ptr 0 (.c 0), .sl 1 (.c 0) ⟨false, m⟩ 1, .sl 2 (.c 0) ⟨true, 6⟩ 1, .int .i64 true 6, .int .i64 true 0]) j) (mkH [scO g nilO, bO m f, l6O g 0])).mapO (viewD 96 (vselD ⟨[1, 6, 46, 47, 48], [.of 1, .of 6, .of 46]⟩ ⟨[2, 3], []⟩ ⟨[1, 6], [.of 1, .of 6]⟩)) =
    putT m f (fun m' f' => .leaf ⟨.normal, [.ptr 0 (.c 0), .sl 1 (.c 0) ⟨false, m'⟩ 1, .sl 2 (.c 0) ⟨true, 6⟩ 1, .int .i64 true 6, .int .i64 true 1], [scO g nilO, bO m' f', l6O g 0]⟩) (be4 (IntKind.u64.wrap g.most)) := by kernel_rfl
theorem hn_it1 (g : SetD) (m : Nat) (f : Nat → Int) (j : Nat → Value) :
    (evalS E4 S4 1000 (loopB (blockB (seqR (seqL (postC 4 hbC))))) (mkA 96 ([1, 6, 46, 47, 48].zip [.ptr 0 (.c 0), .sl 1 (.c 0) ⟨false, m⟩ 1, .sl 2 (.c 0) ⟨true, 6⟩ 1, .int .i64 true 6, .int .i64 true 1]) j) (mkH [scO g nilO, bO m f, l6O g 0])).mapO (viewD 96 (vselD ⟨[1, 6, 46, 47, 48], [.of 1, .of 6, .of 46]⟩ ⟨[2, 3], []⟩ ⟨[1, 6], [.of 1, .of 6]⟩)) =
    putT m f (fun m' f' => .leaf ⟨.normal, [.ptr 0 (.c 0), .sl 1 (.c 0) ⟨false, m'⟩ 1, .sl 2 (.c 0) ⟨true, 6⟩ 1, .int .i64 true 6, .int .i64 true 2], [scO g nilO, bO m' f', l6O g 0]⟩) (be4 (IntKind.u64.wrap g.rounds)) := by kernel_rfl
theorem hn_it2 (g : SetD) (m : Nat) (f : Nat → Int) (j : Nat → Value) :
    (evalS E4 S4 1000 (loopB (blockB (seqR (seqL (postC 4 hbC))))) (mkA 96 ([1, 6, 46, 47, 48].zip [.ptr 0 (.c 0), .sl 1 (.c 0) ⟨false, m⟩ 1, .sl 2 (.c 0) ⟨true, 6⟩ 1, .int .i64 true 6, .int .i64 true 2]) j) (mkH [scO g nilO, bO m f, l6O g 0])).mapO (viewD 96 (vselD ⟨[1, 6, 46, 47, 48], [.of 1, .of 6, .of 46]⟩ ⟨[2, 3], []⟩ ⟨[1, 6], [.of 1, .of 6]⟩)) =
    putT m f (fun m' f' => .leaf ⟨.normal, [.ptr 0 (.c 0), .sl 1 (.c 0) ⟨false, m'⟩ 1, .sl 2 (.c 0) ⟨true, 6⟩ 1, .int .i64 true 6, .int .i64 true 3], [scO g nilO, bO m' f', l6O g 0]⟩) (be4 (IntKind.u64.wrap g.sess)) := by kernel_rfl
theorem hn_it3 (g : SetD) (m : Nat) (f : Nat → Int) (j : Nat → Value) :
    (evalS E4 S4 1000 (loopB (blockB (seqR (seqL (postC 4 hbC))))) (mkA 96 ([1, 6, 46, 47, 48].zip [.ptr 0 (.c 0), .sl 1 (.c 0) ⟨false, m⟩ 1, .sl 2 (.c 0) ⟨true, 6⟩ 1, .int .i64 true 6, .int .i64 true 3]) j) (mkH [scO g nilO, bO m f, l6O g 0])).mapO (viewD 96 (vselD ⟨[1, 6, 46, 47, 48], [.of 1, .of 6, .of 46]⟩ ⟨[2, 3], []⟩ ⟨[1, 6], [.of 1, .of 6]⟩)) =
    putT m f (fun m' f' => .leaf ⟨.normal, [.ptr 0 (.c 0), .sl 1 (.c 0) ⟨false, m'⟩ 1, .sl 2 (.c 0) ⟨true, 6⟩ 1, .int .i64 true 6, .int .i64 true 4], [scO g nilO, bO m' f', l6O g 0]⟩) (be4 (IntKind.u64.wrap g.staged)) := by kernel_rfl
theorem hn_it4 (g : SetD) (m : Nat) (f : Nat → Int) (j : Nat → Value) :
    (evalS E4 S4 1000 (loopB (blockB (seqR (seqL (postC 4 hbC))))) (mkA 96 ([1, 6, 46, 47, 48].zip [.ptr 0 (.c 0), .sl 1 (.c 0) ⟨false, m⟩ 1, .sl 2 (.c 0) ⟨true, 6⟩ 1, .int .i64 true 6, .int .i64 true 4]) j) (mkH [scO g nilO, bO m f, l6O g 0])).mapO (viewD 96 (vselD ⟨[1, 6, 46, 47, 48], [.of 1, .of 6, .of 46]⟩ ⟨[2, 3], []⟩ ⟨[1, 6], [.of 1, .of 6]⟩)) =
    putT m f (fun m' f' => .leaf ⟨.normal, [.ptr 0 (.c 0), .sl 1 (.c 0) ⟨false, m'⟩ 1, .sl 2 (.c 0) ⟨true, 6⟩ 1, .int .i64 true 6, .int .i64 true 5], [scO g nilO, bO m' f', l6O g 0]⟩) (be4 (IntKind.u64.wrap g.queue)) := by kernel_rfl
theorem hn_it5 (g : SetD) (m : Nat) (f : Nat → Int) (j : Nat → Value) :
    (evalS E4 S4 1000 (loopB (blockB (seqR (seqL (postC 4 hbC))))) (mkA 96 ([1, 6, 46, 47, 48].zip [.ptr 0 (.c 0), .sl 1 (.c 0) ⟨false, m⟩ 1, .sl 2 (.c 0) ⟨true, 6⟩ 1, .int .i64 true 6, .int .i64 true 5]) j) (mkH [scO g nilO, bO m f, l6O g 0])).mapO (viewD 96 (vselD ⟨[1, 6, 46, 47, 48], [.of 1, .of 6, .of 46]⟩ ⟨[2, 3], []⟩ ⟨[1, 6], [.of 1, .of 6]⟩)) =
    putT m f (fun m' f' => .leaf ⟨.normal, [.ptr 0 (.c 0), .sl 1 (.c 0) ⟨false, m'⟩ 1, .sl 2 (.c 0) ⟨true, 6⟩ 1, .int .i64 true 6, .int .i64 true 6], [scO g nilO, bO m' f', l6O g 0]⟩) (be4 (IntKind.u64.wrap 0)) := by kernel_rfl
theorem hn_it6 (g : SetD) (m : Nat) (f : Nat → Int) (j : Nat → Value) :
    (evalS E4 S4 1000 (loopB (blockB (seqR (seqL (postC 4 hbC))))) (mkA 96 ([1, 6, 46, 47, 48].zip [.ptr 0 (.c 0), .sl 1 (.c 0) ⟨false, m⟩ 1, .sl 2 (.c 0) ⟨true, 6⟩ 1, .int .i64 true 6, .int .i64 true 6]) j) (mkH [scO g nilO, bO m f, l6O g 0])).mapO (viewD 96 (vselD ⟨[1, 6, 46, 47, 48], [.of 1, .of 6, .of 46]⟩ ⟨[2, 3], []⟩ ⟨[1, 6], [.of 1, .of 6]⟩)) =
    .leaf ⟨.exit 0, [.ptr 0 (.c 0), .sl 1 (.c 0) ⟨false, m⟩ 1], [scO g nilO, bO m f]⟩ := by kernel_rfl
theorem hn_fin (g : SetD) (m : Nat) (f : Nat → Int) (j : Nat → Value) :
    (evalS E4 S4 1000 (seqR (postC 4 hbC)) (mkA 96 ([1, 6].zip [.ptr 0 (.c 0), .sl 1 (.c 0) ⟨false, m⟩ 1]) j) (mkH [scO g nilO, bO m f])).mapO (viewD 96 (vselD ⟨[], []⟩ ⟨[2, 3], []⟩ ⟨[], []⟩)) =
    .node (Nat.ble (Nat.div 0 1 + m) m) (.leaf ⟨.ret, [.str false (strOfF m f), .int .i64 true 0], []⟩) .fail := by kernel_rfl
theorem hn_loop1 (g : SetD) {ρ0 : Emb} {w : World} (hro : ∀ i g, ρ0 i = .img g → g.rw = false) (hck : checkR csV opV g [] = 0) (f0 : Nat → Int)
    (hf0 : bL 27 f0 = hdB g) (b1 : Act) (w1 : World) (st : StL ρ0 w 96 ([1, 6, 5].zip [.ptr 0 (.c 0), .sl 1 (.c 0) ⟨false, 27⟩ 1, .ptr 2 (.c 0)]) [scO g nilO, bO 27 f0, roomO g] b1 w1) :
    (postC 4 hbC).wp E4.P (bodyPostD E4.P hbF (fun e w' => e = .returned (hbV g []) ∧ Below w.heap.size w w')) b1 w1 := by
  refine wp_seqP (by kernel_rfl) ?_
  refine wp_seqP (by kernel_rfl) ?_
  refine StL.pieceD sound4 thom4 1000 (by decide) (by kernel_rfl) (hn_r6 g 27 f0) st ?_
  refine Holds.leaf ⟨rfl, fun b2 w2 st => ?_⟩
  show Code.wp E4.P (seqR (seqL (postC 4 hbC))) _ b2 w2
  refine wp_blockP (by kernel_rfl) ?_
  refine wp_loopP (by kernel_rfl) (fun M x w' => ∃ (i m : Nat) (f : Nat → Int), M = 6 - i ∧ i ≤ 6 ∧ m = 27 + 4 * i ∧ bL m f = hdB g ++ enc4 ((l6 g 0).take i) ∧
    StL ρ0 w 96 ([1, 6, 46, 47, 48].zip [.ptr 0 (.c 0), .sl 1 (.c 0) ⟨false, m⟩ 1, .sl 2 (.c 0) ⟨true, 6⟩ 1, .int .i64 true 6, .int .i64 false i]) [scO g nilO, bO m f, l6O g 0] x w') ?_ ⟨0, 27, f0, rfl, by omega, rfl, by rw [hf0]; simp [enc4], st.conv rfl rfl⟩
  rintro _ b3 w3 ⟨i, m, f, rfl, hi, hm, hf, st⟩
  have hcase : i = 0 ∨ i = 1 ∨ i = 2 ∨ i = 3 ∨ i = 4 ∨ i = 5 ∨ i = 6 := by omega
  rcases hcase with rfl | rfl | rfl | rfl | rfl | rfl | rfl
  · refine StL.pieceD sound4 thom4 1000 (by decide) (by kernel_rfl) (hn_it0 g m f) (st.conv rfl rfl) ?_
    refine Holds.put _ m f (by simp only [List.length_cons, List.length_nil]; omega) ?_
    refine .leaf ⟨rfl, fun b4 w4 st => ⟨6 - 1, by omega, 1, _, _, rfl, by omega, ?_, ?_, st.conv rfl rfl⟩⟩
    · rw [apN_eq, hm]; rfl
    · rw [bL_apF, hf, List.append_assoc, enc4_take _ 0 _ rfl]
  · refine StL.pieceD sound4 thom4 1000 (by decide) (by kernel_rfl) (hn_it1 g m f) (st.conv rfl rfl) ?_
    refine Holds.put _ m f (by simp only [List.length_cons, List.length_nil]; omega) ?_
    refine .leaf ⟨rfl, fun b4 w4 st => ⟨6 - 2, by omega, 2, _, _, rfl, by omega, ?_, ?_, st.conv rfl rfl⟩⟩
    · rw [apN_eq, hm]; rfl
    · rw [bL_apF, hf, List.append_assoc, enc4_take _ 1 _ rfl]
  · refine StL.pieceD sound4 thom4 1000 (by decide) (by kernel_rfl) (hn_it2 g m f) (st.conv rfl rfl) ?_
    refine Holds.put _ m f (by simp only [List.length_cons, List.length_nil]; omega) ?_
    refine .leaf ⟨rfl, fun b4 w4 st => ⟨6 - 3, by omega, 3, _, _, rfl, by omega, ?_, ?_, st.conv rfl rfl⟩⟩
    · rw [apN_eq, hm]; rfl
    · rw [bL_apF, hf, List.append_assoc, enc4_take _ 2 _ rfl]
  · refine StL.pieceD sound4 thom4 1000 (by decide) (by kernel_rfl) (hn_it3 g m f) (st.conv rfl rfl) ?_
    refine Holds.put _ m f (by simp only [List.length_cons, List.length_nil]; omega) ?_
    refine .leaf ⟨rfl, fun b4 w4 st => ⟨6 - 4, by omega, 4, _, _, rfl, by omega, ?_, ?_, st.conv rfl rfl⟩⟩
    · rw [apN_eq, hm]; rfl
    · rw [bL_apF, hf, List.append_assoc, enc4_take _ 3 _ rfl]
  · refine StL.pieceD sound4 thom4 1000 (by decide) (by kernel_rfl) (hn_it4 g m f) (st.conv rfl rfl) ?_
    refine Holds.put _ m f (by simp only [List.length_cons, List.length_nil]; omega) ?_
    refine .leaf ⟨rfl, fun b4 w4 st => ⟨6 - 5, by omega, 5, _, _, rfl, by omega, ?_, ?_, st.conv rfl rfl⟩⟩
    · rw [apN_eq, hm]; rfl
    · rw [bL_apF, hf, List.append_assoc, enc4_take _ 4 _ rfl]
  · refine StL.pieceD sound4 thom4 1000 (by decide) (by kernel_rfl) (hn_it5 g m f) (st.conv rfl rfl) ?_
    refine Holds.put _ m f (by simp only [List.length_cons, List.length_nil]; omega) ?_
    refine .leaf ⟨rfl, fun b4 w4 st => ⟨6 - 6, by omega, 6, _, _, rfl, by omega, ?_, ?_, st.conv rfl rfl⟩⟩
    · rw [apN_eq, hm]; rfl
    · rw [bL_apF, hf, List.append_assoc, enc4_take _ 5 _ rfl]
  · refine StL.pieceD sound4 thom4 1000 (by decide) (by kernel_rfl) (hn_it6 g m f) (st.conv rfl rfl) ?_
    refine Holds.leaf ⟨rfl, fun b4 w4 st => ?_⟩
    show Code.wp E4.P (seqR (postC 4 hbC)) _ b4 w4
    refine StL.pieceD sound4 thom4 1000 (by decide) (by kernel_rfl) (hn_fin g m f) st ?_
    refine Holds.yesB (bleB m) (.leaf ⟨rfl, fun b9 w9 st => hb_end hro _ _ _ _ _ b9 w9 st ?_⟩)
    rw [hbV, if_pos hck, strOfF_bL, hf, encB, List.flatMap_nil, List.append_nil]
    rfl
theorem hb_nil (g : SetD) (w : World) : Calls Tryz.prog 13 (dens [scrS g nilO]).toArray w fun e w' => e = .returned (hbV g []) ∧ Below w.heap.size w w' := by
  have wr : WRel (wEmb []) (mkH []).den w := wEmb_WRel (l := []) (O := []) rfl (by decide) (fun s hs => by cases hs) fun i s o hs => by simp at hs
  have hro := wEmb_ro (l := []) (fun s hs => by cases hs)
  refine calls_StL (E := E4) (sargs := [scrS g nilO]) hbF_some hbC_some hbF_n (by decide) (by simp) wr (.cons _ _ _ _ nilW_rel .nil) fun bb st => ?_
  refine StL.preD sound4 thom4 1000 3 (by decide) hbC_plans (by kernel_rfl) (hn_pre g) st ?_
  refine Holds.node (fun h0 => ?_) fun h0 => ?_
  · have h0 : checkR csV opV g [] ≠ 0 := by simpa using h0
    exact .leaf ⟨rfl, fun b1 w1 st => hb_end hro _ _ _ _ _ b1 w1 st (by rw [hbV, if_neg h0])⟩
  have hck : checkR csV opV g [] = 0 := by simpa using h0
  refine Holds.node (fun h1 => Holds.node (fun h2 => Holds.node (fun h3 => ?_) fun h3 => ?_) fun h2 => Holds.node (fun h3 => ?_) fun h3 => ?_) fun h1 => Holds.node (fun h2 => Holds.node (fun h3 => ?_) fun h3 => ?_) fun h2 => Holds.node (fun h3 => ?_) fun h3 => ?_
  · refine .leaf ⟨rfl, fun b1 w1 st => ?_⟩
    exact hn_loop1 g hro hck (hdF (hd27 g 1 1 1)) (by rw [hdF_bL _ 27 rfl, hdB, h1, h2, h3]; rfl) b1 w1 (st.conv rfl (by kernel_rfl))
  · refine .leaf ⟨rfl, fun b1 w1 st => ?_⟩
    exact hn_loop1 g hro hck (hdF (hd27 g 1 1 0)) (by rw [hdF_bL _ 27 rfl, hdB, h1, h2, h3]; rfl) b1 w1 (st.conv rfl (by kernel_rfl))
  · refine .leaf ⟨rfl, fun b1 w1 st => ?_⟩
    exact hn_loop1 g hro hck (hdF (hd27 g 1 0 1)) (by rw [hdF_bL _ 27 rfl, hdB, h1, h2, h3]; rfl) b1 w1 (st.conv rfl (by kernel_rfl))
  · refine .leaf ⟨rfl, fun b1 w1 st => ?_⟩
    exact hn_loop1 g hro hck (hdF (hd27 g 1 0 0)) (by rw [hdF_bL _ 27 rfl, hdB, h1, h2, h3]; rfl) b1 w1 (st.conv rfl (by kernel_rfl))
  · refine .leaf ⟨rfl, fun b1 w1 st => ?_⟩
    exact hn_loop1 g hro hck (hdF (hd27 g 0 1 1)) (by rw [hdF_bL _ 27 rfl, hdB, h1, h2, h3]; rfl) b1 w1 (st.conv rfl (by kernel_rfl))
  · refine .leaf ⟨rfl, fun b1 w1 st => ?_⟩
    exact hn_loop1 g hro hck (hdF (hd27 g 0 1 0)) (by rw [hdF_bL _ 27 rfl, hdB, h1, h2, h3]; rfl) b1 w1 (st.conv rfl (by kernel_rfl))
  · refine .leaf ⟨rfl, fun b1 w1 st => ?_⟩
    exact hn_loop1 g hro hck (hdF (hd27 g 0 0 1)) (by rw [hdF_bL _ 27 rfl, hdB, h1, h2, h3]; rfl) b1 w1 (st.conv rfl (by kernel_rfl))
  · refine .leaf ⟨rfl, fun b1 w1 st => ?_⟩
    exact hn_loop1 g hro hck (hdF (hd27 g 0 0 0)) (by rw [hdF_bL _ 27 rfl, hdB, h1, h2, h3]; rfl) b1 w1 (st.conv rfl (by kernel_rfl))
theorem hbV_plain (g : SetD) (ops : List OpD) : plainR (hbV g ops) = true := by
  unfold hbV
  split <;> rfl
theorem tab_hb : TabOK Tryz.prog 13 (scrA hbV) :=
  scr_tab hbV_plain hb_nil fun g len k s b n _ _ _ hl hro wr ra => hb_arr g len k s b n hl hro wr ra
end Go.Ev
end
section
set_option maxRecDepth 100000
namespace Go.Ev
open Go.Proofs Go.RowKit
/-! bagatelleref10.Bytes -/
noncomputable def rbC : Code := match Tryz.prog.funcs[14]? with | some fn => fn.body.getD .skip | none => .skip
noncomputable def rbF : Func := match Tryz.prog.funcs[14]? with | some fn => fn | none => default
theorem rbF_some : Tryz.prog.funcs[14]? = some rbF := by kernel_rfl
theorem rbC_some : rbF.body = some rbC := by kernel_rfl
theorem rbF_n : rbF.ntmps = 109 := by kernel_rfl
theorem rbC_plans : plansIn rbC = true := by kernel_rfl
noncomputable abbrev sh8 (v : Int) : Int := v.fdiv ((2 : Int) ^ min (Int.toNat (8 : Int)) IntKind.u64.bits)
noncomputable abbrev nb1 (v : Int) : List UInt8 := [u8 (IntKind.u8.wrap v)]
noncomputable abbrev nb4 (v : Int) : List UInt8 := [u8 (IntKind.u8.wrap (sh8 (sh8 (sh8 v)))), u8 (IntKind.u8.wrap (sh8 (sh8 v))), u8 (IntKind.u8.wrap (sh8 v)), u8 (IntKind.u8.wrap v)]
noncomputable abbrev nb8 (v : Int) : List UInt8 := nb4 (sh8 (sh8 (sh8 (sh8 v)))) ++ nb4 v
noncomputable abbrev nbN (v f : Int) : List UInt8 := nb8 (IntKind.u64.wrap v) ++ nb1 f
noncomputable abbrev bs (l : List UInt8) : ByteArray := ⟨l.toArray⟩
noncomputable abbrev rbL (g : SetD) (sl : SV) (n : SV) (O : List SObj) (i : Nat) (a b c : Int) : Tree View := .leaf ⟨.normal, [.ptr i (.c 0), .strL (nbN g.gx a ++ nbN g.gy b ++ nbN g.dt c), .sl (i + 1) (.c 0) ⟨true, 6⟩ 1], O ++ [scO g sl, .cells [.int .i64 false g.most, .int .i64 false g.rounds, .int .i64 false g.sess, .int .i64 false g.staged, .int .i64 false g.queue, n] true]⟩
noncomputable abbrev rbT (g : SetD) (sl : SV) (n : SV) (O : List SObj) (i : Nat) (ops : List OpD) : Tree View :=
  .node (checkQ r9V oneV g ops != 0) (.leaf ⟨.ret, [.str true ⟨#[]⟩, .int .i64 false (checkQ r9V oneV g ops)], []⟩)
    (.node g.gxf (.node g.gyf (.node g.dtf (rbL g sl n O i 1 1 1) (rbL g sl n O i 1 1 0)) (.node g.dtf (rbL g sl n O i 1 0 1) (rbL g sl n O i 1 0 0)))
      (.node g.gyf (.node g.dtf (rbL g sl n O i 0 1 1) (rbL g sl n O i 0 1 0)) (.node g.dtf (rbL g sl n O i 0 0 1) (rbL g sl n O i 0 0 0))))
theorem rb_pre (g : SetD) (len : Nat) (k s : Nat → Int) (b : Nat → ByteArray) (n : Nat → Int) (j : Nat → Value) : (evalS E4 S4 1000 (preC 5 rbC) (mkA 109 (argL [scrS g (slO len)]) j) (mkH [opsO len k s b n])).mapO (viewD 109 (vselD ⟨[1, 6, 7], [.id 0, .of 1, .of 7]⟩ ⟨[2, 3], []⟩ ⟨[], []⟩)) =
    .node (Nat.ble (Nat.div 0 4 + len) len) (.node (Nat.ble len 70368744177664) (rbT g (slO len) (.int .i64 false len) [opsO len k s b n] 1 (opsL len k s b n)) .fail) .fail := by kernel_rfl
theorem rb_r7 (g : SetD) (len : Nat) (k s : Nat → Int) (b : Nat → ByteArray) (n : Nat → Int) (o : ByteArray) (j : Nat → Value) :
    (evalS E4 S4 1000 (seqL (seqL (postC 5 rbC))) (mkA 109 ([1, 6, 7].zip [.ptr 1 (.c 0), .str false o, .sl 2 (.c 0) ⟨true, 6⟩ 1]) j) (mkH [opsO len k s b n, scO g (slO len), l6O g len])).mapO (viewD 109 (vselD ⟨[1, 6, 7, 8], [.id 0, .of 1, .of 7]⟩ ⟨[2, 3], []⟩ ⟨[], []⟩)) =
    .leaf ⟨.normal, [.ptr 1 (.c 0), .str false (o), .sl 2 (.c 0) ⟨true, 6⟩ 1, .int .i64 true 0], [opsO len k s b n, scO g (slO len), l6O g len]⟩ := by kernel_rfl
theorem rb_it0 (g : SetD) (len : Nat) (k s : Nat → Int) (b : Nat → ByteArray) (n : Nat → Int) (o : ByteArray) (j : Nat → Value) :
    (evalS E4 S4 1000 (loopB (blockB (seqR (seqL (postC 5 rbC))))) (mkA 109 ([1, 6, 7, 8].zip [.ptr 1 (.c 0), .str false (o), .sl 2 (.c 0) ⟨true, 6⟩ 1, .int .i64 true 0]) j) (mkH [opsO len k s b n, scO g (slO len), l6O g len])).mapO (viewD 109 (vselD ⟨[1, 6, 7, 8], [.id 0, .of 1, .of 7]⟩ ⟨[2, 3], []⟩ ⟨[1, 6], [.id 0, .of 1]⟩)) =
    .node (Nat.ble (o.size + (bs (nb4 (IntKind.u64.wrap g.most))).size) 9223372036854775807) (.leaf ⟨.normal, [.ptr 1 (.c 0), .str false (o ++ bs (nb4 (IntKind.u64.wrap g.most))), .sl 2 (.c 0) ⟨true, 6⟩ 1, .int .i64 true 1], [opsO len k s b n, scO g (slO len), l6O g len]⟩) .fail := by kernel_rfl
theorem rb_it1 (g : SetD) (len : Nat) (k s : Nat → Int) (b : Nat → ByteArray) (n : Nat → Int) (o : ByteArray) (j : Nat → Value) :
    (evalS E4 S4 1000 (loopB (blockB (seqR (seqL (postC 5 rbC))))) (mkA 109 ([1, 6, 7, 8].zip [.ptr 1 (.c 0), .str false (o), .sl 2 (.c 0) ⟨true, 6⟩ 1, .int .i64 true 1]) j) (mkH [opsO len k s b n, scO g (slO len), l6O g len])).mapO (viewD 109 (vselD ⟨[1, 6, 7, 8], [.id 0, .of 1, .of 7]⟩ ⟨[2, 3], []⟩ ⟨[1, 6], [.id 0, .of 1]⟩)) =
    .node (Nat.ble (o.size + (bs (nb4 (IntKind.u64.wrap g.rounds))).size) 9223372036854775807) (.leaf ⟨.normal, [.ptr 1 (.c 0), .str false (o ++ bs (nb4 (IntKind.u64.wrap g.rounds))), .sl 2 (.c 0) ⟨true, 6⟩ 1, .int .i64 true 2], [opsO len k s b n, scO g (slO len), l6O g len]⟩) .fail := by kernel_rfl
theorem rb_it2 (g : SetD) (len : Nat) (k s : Nat → Int) (b : Nat → ByteArray) (n : Nat → Int) (o : ByteArray) (j : Nat → Value) :
    (evalS E4 S4 1000 (loopB (blockB (seqR (seqL (postC 5 rbC))))) (mkA 109 ([1, 6, 7, 8].zip [.ptr 1 (.c 0), .str false (o), .sl 2 (.c 0) ⟨true, 6⟩ 1, .int .i64 true 2]) j) (mkH [opsO len k s b n, scO g (slO len), l6O g len])).mapO (viewD 109 (vselD ⟨[1, 6, 7, 8], [.id 0, .of 1, .of 7]⟩ ⟨[2, 3], []⟩ ⟨[1, 6], [.id 0, .of 1]⟩)) =
    .node (Nat.ble (o.size + (bs (nb4 (IntKind.u64.wrap g.sess))).size) 9223372036854775807) (.leaf ⟨.normal, [.ptr 1 (.c 0), .str false (o ++ bs (nb4 (IntKind.u64.wrap g.sess))), .sl 2 (.c 0) ⟨true, 6⟩ 1, .int .i64 true 3], [opsO len k s b n, scO g (slO len), l6O g len]⟩) .fail := by kernel_rfl
theorem rb_it3 (g : SetD) (len : Nat) (k s : Nat → Int) (b : Nat → ByteArray) (n : Nat → Int) (o : ByteArray) (j : Nat → Value) :
    (evalS E4 S4 1000 (loopB (blockB (seqR (seqL (postC 5 rbC))))) (mkA 109 ([1, 6, 7, 8].zip [.ptr 1 (.c 0), .str false (o), .sl 2 (.c 0) ⟨true, 6⟩ 1, .int .i64 true 3]) j) (mkH [opsO len k s b n, scO g (slO len), l6O g len])).mapO (viewD 109 (vselD ⟨[1, 6, 7, 8], [.id 0, .of 1, .of 7]⟩ ⟨[2, 3], []⟩ ⟨[1, 6], [.id 0, .of 1]⟩)) =
    .node (Nat.ble (o.size + (bs (nb4 (IntKind.u64.wrap g.staged))).size) 9223372036854775807) (.leaf ⟨.normal, [.ptr 1 (.c 0), .str false (o ++ bs (nb4 (IntKind.u64.wrap g.staged))), .sl 2 (.c 0) ⟨true, 6⟩ 1, .int .i64 true 4], [opsO len k s b n, scO g (slO len), l6O g len]⟩) .fail := by kernel_rfl
theorem rb_it4 (g : SetD) (len : Nat) (k s : Nat → Int) (b : Nat → ByteArray) (n : Nat → Int) (o : ByteArray) (j : Nat → Value) :
    (evalS E4 S4 1000 (loopB (blockB (seqR (seqL (postC 5 rbC))))) (mkA 109 ([1, 6, 7, 8].zip [.ptr 1 (.c 0), .str false (o), .sl 2 (.c 0) ⟨true, 6⟩ 1, .int .i64 true 4]) j) (mkH [opsO len k s b n, scO g (slO len), l6O g len])).mapO (viewD 109 (vselD ⟨[1, 6, 7, 8], [.id 0, .of 1, .of 7]⟩ ⟨[2, 3], []⟩ ⟨[1, 6], [.id 0, .of 1]⟩)) =
    .node (Nat.ble (o.size + (bs (nb4 (IntKind.u64.wrap g.queue))).size) 9223372036854775807) (.leaf ⟨.normal, [.ptr 1 (.c 0), .str false (o ++ bs (nb4 (IntKind.u64.wrap g.queue))), .sl 2 (.c 0) ⟨true, 6⟩ 1, .int .i64 true 5], [opsO len k s b n, scO g (slO len), l6O g len]⟩) .fail := by kernel_rfl
theorem rb_it5 (g : SetD) (len : Nat) (k s : Nat → Int) (b : Nat → ByteArray) (n : Nat → Int) (o : ByteArray) (j : Nat → Value) :
    (evalS E4 S4 1000 (loopB (blockB (seqR (seqL (postC 5 rbC))))) (mkA 109 ([1, 6, 7, 8].zip [.ptr 1 (.c 0), .str false (o), .sl 2 (.c 0) ⟨true, 6⟩ 1, .int .i64 true 5]) j) (mkH [opsO len k s b n, scO g (slO len), l6O g len])).mapO (viewD 109 (vselD ⟨[1, 6, 7, 8], [.id 0, .of 1, .of 7]⟩ ⟨[2, 3], []⟩ ⟨[1, 6], [.id 0, .of 1]⟩)) =
    .node (Nat.ble (o.size + (bs (nb4 (IntKind.u64.wrap len))).size) 9223372036854775807) (.leaf ⟨.normal, [.ptr 1 (.c 0), .str false (o ++ bs (nb4 (IntKind.u64.wrap len))), .sl 2 (.c 0) ⟨true, 6⟩ 1, .int .i64 true 6], [opsO len k s b n, scO g (slO len), l6O g len]⟩) .fail := by kernel_rfl
theorem rb_it6 (g : SetD) (len : Nat) (k s : Nat → Int) (b : Nat → ByteArray) (n : Nat → Int) (o : ByteArray) (j : Nat → Value) :
    (evalS E4 S4 1000 (loopB (blockB (seqR (seqL (postC 5 rbC))))) (mkA 109 ([1, 6, 7, 8].zip [.ptr 1 (.c 0), .str false (o), .sl 2 (.c 0) ⟨true, 6⟩ 1, .int .i64 true 6]) j) (mkH [opsO len k s b n, scO g (slO len), l6O g len])).mapO (viewD 109 (vselD ⟨[1, 6, 7, 8], [.id 0, .of 1, .of 7]⟩ ⟨[2, 3], []⟩ ⟨[1, 6], [.id 0, .of 1]⟩)) =
    .leaf ⟨.exit 0, [.ptr 1 (.c 0), .str false o], [opsO len k s b n, scO g (slO len)]⟩ := by kernel_rfl
theorem rn_pre (g : SetD) (j : Nat → Value) : (evalS E4 S4 1000 (preC 5 rbC) (mkA 109 (argL [scrS g nilO]) j) (mkH [])).mapO (viewD 109 (vselD ⟨[1, 6, 7], [.of 1, .of 7]⟩ ⟨[2, 3], []⟩ ⟨[], []⟩)) =
    rbT g nilO (.int .i64 true 0) [] 0 [] := by kernel_rfl
theorem rn_r7 (g : SetD) (o : ByteArray) (j : Nat → Value) :
    (evalS E4 S4 1000 (seqL (seqL (postC 5 rbC))) (mkA 109 ([1, 6, 7].zip [.ptr 0 (.c 0), .str false o, .sl 1 (.c 0) ⟨true, 6⟩ 1]) j) (mkH [scO g nilO, l6O g 0])).mapO (viewD 109 (vselD ⟨[1, 6, 7, 8], [.of 1, .of 7]⟩ ⟨[2, 3], []⟩ ⟨[], []⟩)) =
    .leaf ⟨.normal, [.ptr 0 (.c 0), .str false (o), .sl 1 (.c 0) ⟨true, 6⟩ 1, .int .i64 true 0], [scO g nilO, l6O g 0]⟩ := by kernel_rfl
theorem rn_it0 (g : SetD) (o : ByteArray) (j : Nat → Value) :
    (evalS E4 S4 1000 (loopB (blockB (seqR (seqL (postC 5 rbC))))) (mkA 109 ([1, 6, 7, 8].zip [.ptr 0 (.c 0), .str false (o), .sl 1 (.c 0) ⟨true, 6⟩ 1, .int .i64 true 0]) j) (mkH [scO g nilO, l6O g 0])).mapO (viewD 109 (vselD ⟨[1, 6, 7, 8], [.of 1, .of 7]⟩ ⟨[2, 3], []⟩ ⟨[1, 6], [.of 1]⟩)) =
    .node (Nat.ble (o.size + (bs (nb4 (IntKind.u64.wrap g.most))).size) 9223372036854775807) (.leaf ⟨.normal, [.ptr 0 (.c 0), .str false (o ++ bs (nb4 (IntKind.u64.wrap g.most))), .sl 1 (.c 0) ⟨true, 6⟩ 1, .int .i64 true 1], [scO g nilO, l6O g 0]⟩) .fail := by kernel_rfl
theorem rn_it1 (g : SetD) (o : ByteArray) (j : Nat → Value) :
    (evalS E4 S4 1000 (loopB (blockB (seqR (seqL (postC 5 rbC))))) (mkA 109 ([1, 6, 7, 8].zip [.ptr 0 (.c 0), .str false (o), .sl 1 (.c 0) ⟨true, 6⟩ 1, .int .i64 true 1]) j) (mkH [scO g nilO, l6O g 0])).mapO (viewD 109 (vselD ⟨[1, 6, 7, 8], [.of 1, .of 7]⟩ ⟨[2, 3], []⟩ ⟨[1, 6], [.of 1]⟩)) =
    .node (Nat.ble (o.size + (bs (nb4 (IntKind.u64.wrap g.rounds))).size) 9223372036854775807) (.leaf ⟨.normal, [.ptr 0 (.c 0), .str false (o ++ bs (nb4 (IntKind.u64.wrap g.rounds))), .sl 1 (.c 0) ⟨true, 6⟩ 1, .int .i64 true 2], [scO g nilO, l6O g 0]⟩) .fail := by kernel_rfl
theorem rn_it2 (g : SetD) (o : ByteArray) (j : Nat → Value) :
    (evalS E4 S4 1000 (loopB (blockB (seqR (seqL (postC 5 rbC))))) (mkA 109 ([1, 6, 7, 8].zip [.ptr 0 (.c 0), .str false (o), .sl 1 (.c 0) ⟨true, 6⟩ 1, .int .i64 true 2]) j) (mkH [scO g nilO, l6O g 0])).mapO (viewD 109 (vselD ⟨[1, 6, 7, 8], [.of 1, .of 7]⟩ ⟨[2, 3], []⟩ ⟨[1, 6], [.of 1]⟩)) =
    .node (Nat.ble (o.size + (bs (nb4 (IntKind.u64.wrap g.sess))).size) 9223372036854775807) (.leaf ⟨.normal, [.ptr 0 (.c 0), .str false (o ++ bs (nb4 (IntKind.u64.wrap g.sess))), .sl 1 (.c 0) ⟨true, 6⟩ 1, .int .i64 true 3], [scO g nilO, l6O g 0]⟩) .fail := by kernel_rfl
theorem rn_it3 (g : SetD) (o : ByteArray) (j : Nat → Value) :
    (evalS E4 S4 1000 (loopB (blockB (seqR (seqL (postC 5 rbC))))) (mkA 109 ([1, 6, 7, 8].zip [.ptr 0 (.c 0), .str false (o), .sl 1 (.c 0) ⟨true, 6⟩ 1, .int .i64 true 3]) j) (mkH [scO g nilO, l6O g 0])).mapO (viewD 109 (vselD ⟨[1, 6, 7, 8], [.of 1, .of 7]⟩ ⟨[2, 3], []⟩ ⟨[1, 6], [.of 1]⟩)) =
    .node (Nat.ble (o.size + (bs (nb4 (IntKind.u64.wrap g.staged))).size) 9223372036854775807) (.leaf ⟨.normal, [.ptr 0 (.c 0), .str false (o ++ bs (nb4 (IntKind.u64.wrap g.staged))), .sl 1 (.c 0) ⟨true, 6⟩ 1, .int .i64 true 4], [scO g nilO, l6O g 0]⟩) .fail := by kernel_rfl
theorem rn_it4 (g : SetD) (o : ByteArray) (j : Nat → Value) :
    (evalS E4 S4 1000 (loopB (blockB (seqR (seqL (postC 5 rbC))))) (mkA 109 ([1, 6, 7, 8].zip [.ptr 0 (.c 0), .str false (o), .sl 1 (.c 0) ⟨true, 6⟩ 1, .int .i64 true 4]) j) (mkH [scO g nilO, l6O g 0])).mapO (viewD 109 (vselD ⟨[1, 6, 7, 8], [.of 1, .of 7]⟩ ⟨[2, 3], []⟩ ⟨[1, 6], [.of 1]⟩)) =
    .node (Nat.ble (o.size + (bs (nb4 (IntKind.u64.wrap g.queue))).size) 9223372036854775807) (.leaf ⟨.normal, [.ptr 0 (.c 0), .str false (o ++ bs (nb4 (IntKind.u64.wrap g.queue))), .sl 1 (.c 0) ⟨true, 6⟩ 1, .int .i64 true 5], [scO g nilO, l6O g 0]⟩) .fail := by kernel_rfl
theorem rn_it5 (g : SetD) (o : ByteArray) (j : Nat → Value) :
    (evalS E4 S4 1000 (loopB (blockB (seqR (seqL (postC 5 rbC))))) (mkA 109 ([1, 6, 7, 8].zip [.ptr 0 (.c 0), .str false (o), .sl 1 (.c 0) ⟨true, 6⟩ 1, .int .i64 true 5]) j) (mkH [scO g nilO, l6O g 0])).mapO (viewD 109 (vselD ⟨[1, 6, 7, 8], [.of 1, .of 7]⟩ ⟨[2, 3], []⟩ ⟨[1, 6], [.of 1]⟩)) =
    .node (Nat.ble (o.size + (bs (nb4 (IntKind.u64.wrap 0))).size) 9223372036854775807) (.leaf ⟨.normal, [.ptr 0 (.c 0), .str false (o ++ bs (nb4 (IntKind.u64.wrap 0))), .sl 1 (.c 0) ⟨true, 6⟩ 1, .int .i64 true 6], [scO g nilO, l6O g 0]⟩) .fail := by kernel_rfl
theorem rn_it6 (g : SetD) (o : ByteArray) (j : Nat → Value) :
    (evalS E4 S4 1000 (loopB (blockB (seqR (seqL (postC 5 rbC))))) (mkA 109 ([1, 6, 7, 8].zip [.ptr 0 (.c 0), .str false (o), .sl 1 (.c 0) ⟨true, 6⟩ 1, .int .i64 true 6]) j) (mkH [scO g nilO, l6O g 0])).mapO (viewD 109 (vselD ⟨[1, 6, 7, 8], [.of 1, .of 7]⟩ ⟨[2, 3], []⟩ ⟨[1, 6], [.of 1]⟩)) =
    .leaf ⟨.exit 0, [.ptr 0 (.c 0), .str false o], [scO g nilO]⟩ := by kernel_rfl
theorem rb_r11 (g : SetD) (len : Nat) (k s : Nat → Int) (b : Nat → ByteArray) (n : Nat → Int) (o : ByteArray) (j : Nat → Value) :
    (evalS E4 S4 1000 (seqL (seqL (seqR (postC 5 rbC)))) (mkA 109 ([1, 6].zip [.ptr 1 (.c 0), .str false o]) j) (mkH [opsO len k s b n, scO g (slO len)])).mapO (viewD 109 (vselD ⟨[1, 6, 9], [.id 0, .of 1]⟩ ⟨[2, 3], []⟩ ⟨[], []⟩)) =
    .leaf ⟨.normal, [.ptr 1 (.c 0), .str false o, .int .i64 true 0], [opsO len k s b n, scO g (slO len)]⟩ := by kernel_rfl
noncomputable abbrev rbN (g : SetD) (len : Nat) (k s : Nat → Int) (b : Nat → ByteArray) (n : Nat → Int) (i : Nat) (o : ByteArray) : Tree View := .leaf ⟨.normal, [.ptr 1 (.c 0), .str false o, .int .i64 false (IntKind.i64.wrap ((i : Int) + 1))], [opsO len k s b n, scO g (slO len)]⟩
/-- A string behind another, if there is room. -/
noncomputable abbrev catT (o x : ByteArray) (K : ByteArray → Tree View) : Tree View := .node (Nat.ble (o.size + x.size) 9223372036854775807) (K (o ++ x)) .fail
theorem rb_body (g : SetD) (len : Nat) (k s : Nat → Int) (b : Nat → ByteArray) (n : Nat → Int) (o : ByteArray) (i : Nat) (j : Nat → Value) :
    (evalS E4 S4 1000 (loopB (blockB (seqR (seqL (seqR (postC 5 rbC)))))) (mkA 109 ([1, 6, 9].zip [.ptr 1 (.c 0), .str false o, .int .i64 false i]) j) (mkH [opsO len k s b n, scO g (slO len)])).mapO (viewD 109 (vselD ⟨[1, 6, 9], [.id 0, .of 1]⟩ ⟨[2, 3], []⟩ ⟨[6], []⟩)) =
    .node (decide ((i : Int) < (len : Int))) (.node (decide ((0 : Int) ≤ (i : Int)) && (i : Int).toNat.blt len) (.node (i.blt len)
      (catT o (bs (nb1 (IntKind.u64.wrap (k i)))) fun o => catT o (bs (nb1 (IntKind.u64.wrap (s i)))) fun o =>
        .node (k i == (3 : Int)) (catT o (bs (nb4 (IntKind.u64.wrap ((b i).size : Int)))) fun o => catT o (b i) fun o =>
            .node (k i == (4 : Int)) (catT o (bs (nb4 (IntKind.u64.wrap (n i)))) (rbN g len k s b n i)) (rbN g len k s b n i o))
          (.node (k i == (4 : Int)) (catT o (bs (nb4 (IntKind.u64.wrap (n i)))) (rbN g len k s b n i)) (rbN g len k s b n i o))) .fail) .fail)
      (.leaf ⟨.exit 2, [.str false o], []⟩) := by kernel_rfl
theorem rb_fin (o : ByteArray) (j : Nat → Value) :
    (evalS E4 S4 1000 (seqR (seqR (postC 5 rbC))) (mkA 109 ([6].zip [.str false o]) j) (mkH [])).mapO (viewD 109 (vselD ⟨[], []⟩ ⟨[2, 3], []⟩ ⟨[], []⟩)) =
    .leaf ⟨.ret, [.str false o, .int .i64 true 0], []⟩ := by kernel_rfl
theorem rn_fin (g : SetD) (o : ByteArray) (j : Nat → Value) :
    (evalS E4 S4 1000 (seqR (postC 5 rbC)) (mkA 109 ([1, 6].zip [.ptr 0 (.c 0), .str false o]) j) (mkH [scO g nilO])).mapO (viewD 109 (vselD ⟨[], []⟩ ⟨[2, 3], []⟩ ⟨[], []⟩)) =
    .leaf ⟨.ret, [.str false o, .int .i64 true 0], []⟩ := by kernel_rfl
end Go.Ev
end
section
set_option maxRecDepth 100000
namespace Go.Ev
open Go.Proofs Go.RowKit
noncomputable section
def opQ (o : OpD) : List UInt8 := nb1 (IntKind.u64.wrap o.k) ++ (nb1 (IntKind.u64.wrap o.s) ++ ((if o.k = 3 then nb4 (IntKind.u64.wrap (o.b.size : Int)) ++ o.b.data.toList else []) ++ (if o.k = 4 then nb4 (IntKind.u64.wrap o.n) else [])))
def enc4Q (l : List Int) : List UInt8 := l.flatMap fun v => nb4 (IntKind.u64.wrap v)
def hdQ (g : SetD) : List UInt8 := nbN g.gx (fl g.gxf) ++ nbN g.gy (fl g.gyf) ++ nbN g.dt (fl g.dtf)
def encQ (g : SetD) (ops : List OpD) : List UInt8 := hdQ g ++ enc4Q (l6 g ops.length) ++ ops.flatMap opQ
def rbV (g : SetD) (ops : List OpD) : Value := if checkQ r9V oneV g ops = 0 then .tuple #[.string (bs (encQ g ops)), .int .i64 0] else .tuple #[.string ⟨#[]⟩, .int .i64 (checkQ r9V oneV g ops)]
def rbG (g : SetD) (ops : List OpD) : Bool := !(checkQ r9V oneV g ops == 0) || decide (sumN ops ≤ 1000000000)
end
theorem bs_app (l m : List UInt8) : bs l ++ bs m = bs (l ++ m) := by
  apply ByteArray.ext
  rw [ByteArray.data_append]
  simp
theorem bs_of (b : ByteArray) : b = bs b.data.toList := by
  obtain ⟨d⟩ := b
  simp
theorem bs_size (l : List UInt8) : (bs l).size = l.length := by
  show l.toArray.size = _
  simp
theorem checkQ_ok {g : SetD} {l : List OpD} (h : checkQ r9V oneV g l = 0) : l.length ≤ 400 := by
  unfold checkQ at h
  by_cases h0 : r9V g = 0
  · rw [if_pos h0] at h
    by_cases h1 : 400 < l.length ∨ 65536 < sumW 0 l
    · rw [if_pos h1] at h; cases h
    · omega
  · rw [if_neg h0] at h; exact absurd h h0
theorem rb_end {ρ0 : Emb} {w : World} (hro : ∀ i g, ρ0 i = .img g → g.rw = false) (v : ByteArray) (e : Int) (l l2 : Bool) (u : Value) (b1 : Act) (w1 : World) (st : StL ρ0 w 109 [(2, .str l v), (3, .int .i64 l2 e)] [] b1 w1) (hu : u = .tuple #[.string v, .int .i64 e]) :
    Leaves E4.P rbF b1.tmps (fun e w' => e = .returned u ∧ Below w.heap.size w w') b1.defers .returning w1 := by
  subst hu
  refine StL.finish (vs := [.str l v, .int .i64 l2 e]) (fun j => by kernel_rfl) st fun ρ v' rv _ fr => ?_
  have := plainR_eq (v := .tuple #[.string v, .int .i64 e]) rfl rv
  exact ⟨by rw [this], below_of_ro hro fr⟩
theorem Holds.cat {p : View → Prop} {K : ByteArray → Tree View} {l : List UInt8} {x : ByteArray} (h : l.length + x.size ≤ 9223372036854775807) (k : Holds p (K (bs (l ++ x.data.toList)))) : Holds p (catT (bs l) x K) := by
  refine Holds.yesB (Nat.ble_eq_true_of_le (by rw [bs_size]; exact h)) ?_
  have e : bs l ++ x = bs (l ++ x.data.toList) := by rw [← bs_app, ← bs_of]
  rw [e]
  exact k
theorem rb_loop2 (g : SetD) (len : Nat) (k s : Nat → Int) (b : Nat → ByteArray) (n : Nat → Int) {ρ0 : Emb} {w : World} (hlen : len ≤ 70368744177664) (hro : ∀ i g, ρ0 i = .img g → g.rw = false) (hck : checkQ r9V oneV g (opsL len k s b n) = 0) (hsum : sumN (opsL len k s b n) ≤ 1000000000) (l0 : List UInt8) (hm0 : l0.length = 51)
    (hf0 : l0 = hdQ g ++ enc4Q (l6 g len)) (b1 : Act) (w1 : World) (st : StL ρ0 w 109 ([1, 6].zip [.ptr 1 (.c 0), .str false (bs l0)]) [opsO len k s b n, scO g (slO len)] b1 w1) :
    Code.wp E4.P (seqR (postC 5 rbC)) (bodyPostD E4.P rbF (fun e w' => e = .returned (rbV g (opsL len k s b n)) ∧ Below w.heap.size w w')) b1 w1 := by
  have hl4 := checkQ_ok hck
  rw [opsL_length] at hl4
  refine wp_seqP (by kernel_rfl) ?_
  refine wp_seqP (by kernel_rfl) ?_
  refine StL.pieceD sound4 thom4 1000 (by decide) (by kernel_rfl) (rb_r11 g len k s b n (bs l0)) st ?_
  refine Holds.leaf ⟨rfl, fun b2 w2 st => ?_⟩
  show Code.wp E4.P (seqR (seqL (seqR (postC 5 rbC)))) _ b2 w2
  refine wp_blockP (by kernel_rfl) ?_
  refine wp_loopP (by kernel_rfl) (fun M x w' => ∃ (i : Nat) (l : List UInt8), M = len - i ∧ i ≤ len ∧ l.length + 10 * (len - i) + sumN ((opsL len k s b n).drop i) ≤ 2000000000 ∧ encQ g (opsL len k s b n) = l ++ ((opsL len k s b n).drop i).flatMap opQ ∧
    StL ρ0 w 109 ([1, 6, 9].zip [.ptr 1 (.c 0), .str false (bs l), .int .i64 false i]) [opsO len k s b n, scO g (slO len)] x w') ?_ ⟨0, l0, rfl, Nat.zero_le _, by rw [List.drop_zero]; omega, by rw [hf0, List.drop_zero, encQ, opsL_length], st.conv rfl rfl⟩
  rintro _ b3 w3 ⟨i, l, rfl, hi, hm, hacc, st⟩
  refine StL.pieceD sound4 thom4 1000 (by decide) (by kernel_rfl) (rb_body g len k s b n (bs l) i) st ?_
  refine Holds.node (fun h2 => ?_) fun h2 => ?_
  · have hlt : i < len := by simpa using h2
    have hblt : i.blt len = true := blt_true hlt
    rw [opsL_drop hlt, sumN] at hm
    rw [opsL_drop hlt, List.flatMap_cons] at hacc
    simp only at hm
    have next : ∀ (l' : List UInt8), l'.length ≤ l.length + 10 + (b i).size → l' = l ++ opQ ⟨k i, s i, b i, n i⟩ → ∀ b4 w4, StL ρ0 w 109 ([1, 6, 9].zip [.ptr 1 (.c 0), .str false (bs l'), .int .i64 false (IntKind.i64.wrap ((i : Int) + 1))]) [opsO len k s b n, scO g (slO len)] b4 w4 →
        ∃ M, M < len - i ∧ ∃ (i' : Nat) (l : List UInt8), M = len - i' ∧ i' ≤ len ∧ l.length + 10 * (len - i') + sumN ((opsL len k s b n).drop i') ≤ 2000000000 ∧ encQ g (opsL len k s b n) = l ++ ((opsL len k s b n).drop i').flatMap opQ ∧
          StL ρ0 w 109 ([1, 6, 9].zip [.ptr 1 (.c 0), .str false (bs l), .int .i64 false i']) [opsO len k s b n, scO g (slO len)] b4 w4 := by
      intro l' hm' hf' b4 w4 st
      refine ⟨len - (i + 1), by omega, i + 1, l', rfl, hlt, by omega, ?_, st.conv ?_ rfl⟩
      · rw [hacc, hf', List.append_assoc]
      · simp only [dens, SV.den, wrap_succ hlt hlen]
    have hz : (b i).data.toList.length = (b i).size := by rw [Array.length_toList]; rfl
    refine Holds.yesB (by simp [hblt]) (Holds.yesB hblt ?_)
    refine Holds.cat (by rw [bs_size]; simp only [List.length_cons, List.length_nil]; omega) ?_
    refine Holds.cat (by rw [bs_size]; simp only [List.length_append, List.length_cons, List.length_nil]; omega) ?_
    refine Holds.node (fun h3 => ?_) fun h3 => ?_
    · have h3 : k i = 3 := by simpa using h3
      refine Holds.cat (by rw [bs_size]; simp only [List.length_append, List.length_cons, List.length_nil]; omega) ?_
      refine Holds.cat (by simp only [List.length_append, List.length_cons, List.length_nil]; omega) ?_
      refine Holds.node (fun h4 => ?_) fun h4 => ?_
      · rw [h3] at h4; cases h4
      · refine .leaf ⟨rfl, fun b4 w4 st => next _ ?_ ?_ b4 w4 st⟩
        · simp only [List.length_append, List.length_cons, List.length_nil]; omega
        · simp [opQ, h3]
    · have h3 : k i ≠ 3 := by simpa using h3
      refine Holds.node (fun h4 => ?_) fun h4 => ?_
      · have h4 : k i = 4 := by simpa using h4
        refine Holds.cat (by rw [bs_size]; simp only [List.length_append, List.length_cons, List.length_nil]; omega) ?_
        refine .leaf ⟨rfl, fun b4 w4 st => next _ ?_ ?_ b4 w4 st⟩
        · simp only [List.length_append, List.length_cons, List.length_nil]; omega
        · simp [opQ, h4]
      · have h4 : k i ≠ 4 := by simpa using h4
        refine .leaf ⟨rfl, fun b4 w4 st => next _ ?_ ?_ b4 w4 st⟩
        · simp only [List.length_append, List.length_cons, List.length_nil]; omega
        · simp [opQ, h3, h4]
  · have hge : i = len := by simp at h2; omega
    refine .leaf ⟨rfl, fun b4 w4 st => ?_⟩
    show Code.wp E4.P (seqR (seqR (postC 5 rbC))) _ b4 w4
    refine StL.pieceD sound4 thom4 1000 (by decide) (by kernel_rfl) (rb_fin (bs l)) st ?_
    refine Holds.leaf ⟨rfl, fun b9 w9 st => rb_end hro _ _ _ _ _ b9 w9 st ?_⟩
    rw [hge, List.drop_eq_nil_of_le (by rw [opsL_length]; exact Nat.le_refl _), List.flatMap_nil, List.append_nil] at hacc
    rw [rbV, if_pos hck, hacc]
theorem enc4Q_take (l : List Int) (i : Nat) (v : Int) (h : l[i]? = some v) : enc4Q (l.take (i + 1)) = enc4Q (l.take i) ++ nb4 (IntKind.u64.wrap v) := by
  unfold enc4Q
  rw [List.take_add_one, h, List.flatMap_append]
  congr 1
theorem rb_loop1 (g : SetD) (len : Nat) (k s : Nat → Int) (b : Nat → ByteArray) (n : Nat → Int) {ρ0 : Emb} {w : World} (hlen : len ≤ 70368744177664) (hsum : sumN (opsL len k s b n) ≤ 1000000000) (hro : ∀ i g, ρ0 i = .img g → g.rw = false) (hck : checkQ r9V oneV g (opsL len k s b n) = 0) (l0 : List UInt8)
    (hf0 : l0 = hdQ g) (hf1 : l0.length = 27) (b1 : Act) (w1 : World) (st : StL ρ0 w 109 ([1, 6, 7].zip [.ptr 1 (.c 0), .str false (bs l0), .sl 2 (.c 0) ⟨true, 6⟩ 1]) [opsO len k s b n, scO g (slO len), l6O g len] b1 w1) :
    (postC 5 rbC).wp E4.P (bodyPostD E4.P rbF (fun e w' => e = .returned (rbV g (opsL len k s b n)) ∧ Below w.heap.size w w')) b1 w1 := by
  refine wp_seqP (by kernel_rfl) ?_
  refine wp_seqP (by kernel_rfl) ?_
  refine StL.pieceD sound4 thom4 1000 (by decide) (by kernel_rfl) (rb_r7 g len k s b n (bs l0)) st ?_
  refine Holds.leaf ⟨rfl, fun b2 w2 st => ?_⟩
  show Code.wp E4.P (seqR (seqL (postC 5 rbC))) _ b2 w2
  refine wp_blockP (by kernel_rfl) ?_
  refine wp_loopP (by kernel_rfl) (fun M x w' => ∃ (i : Nat) (l : List UInt8), M = 6 - i ∧ i ≤ 6 ∧ l.length = 27 + 4 * i ∧ l = hdQ g ++ enc4Q ((l6 g len).take i) ∧
    StL ρ0 w 109 ([1, 6, 7, 8].zip [.ptr 1 (.c 0), .str false (bs l), .sl 2 (.c 0) ⟨true, 6⟩ 1, .int .i64 false i]) [opsO len k s b n, scO g (slO len), l6O g len] x w') ?_ ⟨0, l0, rfl, by omega, hf1, by rw [hf0]; simp [enc4Q], st.conv rfl rfl⟩
  rintro _ b3 w3 ⟨i, l, rfl, hi, hm, hf, st⟩
  have hcase : i = 0 ∨ i = 1 ∨ i = 2 ∨ i = 3 ∨ i = 4 ∨ i = 5 ∨ i = 6 := by omega
  rcases hcase with rfl | rfl | rfl | rfl | rfl | rfl | rfl
  · refine StL.pieceD sound4 thom4 1000 (by decide) (by kernel_rfl) (rb_it0 g len k s b n (bs l)) (st.conv rfl rfl) ?_
    refine Holds.yesB (Nat.ble_eq_true_of_le (by rw [bs_size, bs_size]; simp only [List.length_cons, List.length_nil]; omega)) ?_
    rw [bs_app]
    refine .leaf ⟨rfl, fun b4 w4 st => ⟨6 - 1, by omega, 1, _, rfl, by omega, ?_, ?_, st.conv rfl rfl⟩⟩
    · rw [List.length_append, hm]; rfl
    · rw [hf, List.append_assoc, enc4Q_take _ 0 _ rfl]
  · refine StL.pieceD sound4 thom4 1000 (by decide) (by kernel_rfl) (rb_it1 g len k s b n (bs l)) (st.conv rfl rfl) ?_
    refine Holds.yesB (Nat.ble_eq_true_of_le (by rw [bs_size, bs_size]; simp only [List.length_cons, List.length_nil]; omega)) ?_
    rw [bs_app]
    refine .leaf ⟨rfl, fun b4 w4 st => ⟨6 - 2, by omega, 2, _, rfl, by omega, ?_, ?_, st.conv rfl rfl⟩⟩
    · rw [List.length_append, hm]; rfl
    · rw [hf, List.append_assoc, enc4Q_take _ 1 _ rfl]
  · refine StL.pieceD sound4 thom4 1000 (by decide) (by kernel_rfl) (rb_it2 g len k s b n (bs l)) (st.conv rfl rfl) ?_
    refine Holds.yesB (Nat.ble_eq_true_of_le (by rw [bs_size, bs_size]; simp only [List.length_cons, List.length_nil]; omega)) ?_
    rw [bs_app]
    refine .leaf ⟨rfl, fun b4 w4 st => ⟨6 - 3, by omega, 3, _, rfl, by omega, ?_, ?_, st.conv rfl rfl⟩⟩
    · rw [List.length_append, hm]; rfl
    · rw [hf, List.append_assoc, enc4Q_take _ 2 _ rfl]
  · refine StL.pieceD sound4 thom4 1000 (by decide) (by kernel_rfl) (rb_it3 g len k s b n (bs l)) (st.conv rfl rfl) ?_
    refine Holds.yesB (Nat.ble_eq_true_of_le (by rw [bs_size, bs_size]; simp only [List.length_cons, List.length_nil]; omega)) ?_
    rw [bs_app]
    refine .leaf ⟨rfl, fun b4 w4 st => ⟨6 - 4, by omega, 4, _, rfl, by omega, ?_, ?_, st.conv rfl rfl⟩⟩
    · rw [List.length_append, hm]; rfl
    · rw [hf, List.append_assoc, enc4Q_take _ 3 _ rfl]
  · refine StL.pieceD sound4 thom4 1000 (by decide) (by kernel_rfl) (rb_it4 g len k s b n (bs l)) (st.conv rfl rfl) ?_
    refine Holds.yesB (Nat.ble_eq_true_of_le (by rw [bs_size, bs_size]; simp only [List.length_cons, List.length_nil]; omega)) ?_
    rw [bs_app]
    refine .leaf ⟨rfl, fun b4 w4 st => ⟨6 - 5, by omega, 5, _, rfl, by omega, ?_, ?_, st.conv rfl rfl⟩⟩
    · rw [List.length_append, hm]; rfl
    · rw [hf, List.append_assoc, enc4Q_take _ 4 _ rfl]
  · refine StL.pieceD sound4 thom4 1000 (by decide) (by kernel_rfl) (rb_it5 g len k s b n (bs l)) (st.conv rfl rfl) ?_
    refine Holds.yesB (Nat.ble_eq_true_of_le (by rw [bs_size, bs_size]; simp only [List.length_cons, List.length_nil]; omega)) ?_
    rw [bs_app]
    refine .leaf ⟨rfl, fun b4 w4 st => ⟨6 - 6, by omega, 6, _, rfl, by omega, ?_, ?_, st.conv rfl rfl⟩⟩
    · rw [List.length_append, hm]; rfl
    · rw [hf, List.append_assoc, enc4Q_take _ 5 _ rfl]
  · refine StL.pieceD sound4 thom4 1000 (by decide) (by kernel_rfl) (rb_it6 g len k s b n (bs l)) (st.conv rfl rfl) ?_
    refine Holds.leaf ⟨rfl, fun b4 w4 st => ?_⟩
    exact rb_loop2 g len k s b n hlen hro hck hsum l hm hf b4 w4 st
theorem rn_loop1 (g : SetD)  {ρ0 : Emb} {w : World}  (hro : ∀ i g, ρ0 i = .img g → g.rw = false) (hck : checkQ r9V oneV g [] = 0) (l0 : List UInt8)
    (hf0 : l0 = hdQ g) (hf1 : l0.length = 27) (b1 : Act) (w1 : World) (st : StL ρ0 w 109 ([1, 6, 7].zip [.ptr 0 (.c 0), .str false (bs l0), .sl 1 (.c 0) ⟨true, 6⟩ 1]) [scO g nilO, l6O g 0] b1 w1) :
    (postC 5 rbC).wp E4.P (bodyPostD E4.P rbF (fun e w' => e = .returned (rbV g []) ∧ Below w.heap.size w w')) b1 w1 := by
  refine wp_seqP (by kernel_rfl) ?_
  refine wp_seqP (by kernel_rfl) ?_
  refine StL.pieceD sound4 thom4 1000 (by decide) (by kernel_rfl) (rn_r7 g (bs l0)) st ?_
  refine Holds.leaf ⟨rfl, fun b2 w2 st => ?_⟩
  show Code.wp E4.P (seqR (seqL (postC 5 rbC))) _ b2 w2
  refine wp_blockP (by kernel_rfl) ?_
  refine wp_loopP (by kernel_rfl) (fun M x w' => ∃ (i : Nat) (l : List UInt8), M = 6 - i ∧ i ≤ 6 ∧ l.length = 27 + 4 * i ∧ l = hdQ g ++ enc4Q ((l6 g 0).take i) ∧
    StL ρ0 w 109 ([1, 6, 7, 8].zip [.ptr 0 (.c 0), .str false (bs l), .sl 1 (.c 0) ⟨true, 6⟩ 1, .int .i64 false i]) [scO g nilO, l6O g 0] x w') ?_ ⟨0, l0, rfl, by omega, hf1, by rw [hf0]; simp [enc4Q], st.conv rfl rfl⟩
  rintro _ b3 w3 ⟨i, l, rfl, hi, hm, hf, st⟩
  have hcase : i = 0 ∨ i = 1 ∨ i = 2 ∨ i = 3 ∨ i = 4 ∨ i = 5 ∨ i = 6 := by omega
  rcases hcase with rfl | rfl | rfl | rfl | rfl | rfl | rfl
  · refine StL.pieceD sound4 thom4 1000 (by decide) (by kernel_rfl) (rn_it0 g (bs l)) (st.conv rfl rfl) ?_
    refine Holds.yesB (Nat.ble_eq_true_of_le (by rw [bs_size, bs_size]; simp only [List.length_cons, List.length_nil]; omega)) ?_
    rw [bs_app]
    refine .leaf ⟨rfl, fun b4 w4 st => ⟨6 - 1, by omega, 1, _, rfl, by omega, ?_, ?_, st.conv rfl rfl⟩⟩
    · rw [List.length_append, hm]; rfl
    · rw [hf, List.append_assoc, enc4Q_take _ 0 _ rfl]
  · refine StL.pieceD sound4 thom4 1000 (by decide) (by kernel_rfl) (rn_it1 g (bs l)) (st.conv rfl rfl) ?_
    refine Holds.yesB (Nat.ble_eq_true_of_le (by rw [bs_size, bs_size]; simp only [List.length_cons, List.length_nil]; omega)) ?_
    rw [bs_app]
    refine .leaf ⟨rfl, fun b4 w4 st => ⟨6 - 2, by omega, 2, _, rfl, by omega, ?_, ?_, st.conv rfl rfl⟩⟩
    · rw [List.length_append, hm]; rfl
    · rw [hf, List.append_assoc, enc4Q_take _ 1 _ rfl]
  · refine StL.pieceD sound4 thom4 1000 (by decide) (by kernel_rfl) (rn_it2 g (bs l)) (st.conv rfl rfl) ?_
    refine Holds.yesB (Nat.ble_eq_true_of_le (by rw [bs_size, bs_size]; simp only [List.length_cons, List.length_nil]; omega)) ?_
    rw [bs_app]
    refine .leaf ⟨rfl, fun b4 w4 st => ⟨6 - 3, by omega, 3, _, rfl, by omega, ?_, ?_, st.conv rfl rfl⟩⟩
    · rw [List.length_append, hm]; rfl
    · rw [hf, List.append_assoc, enc4Q_take _ 2 _ rfl]
  · refine StL.pieceD sound4 thom4 1000 (by decide) (by kernel_rfl) (rn_it3 g (bs l)) (st.conv rfl rfl) ?_
    refine Holds.yesB (Nat.ble_eq_true_of_le (by rw [bs_size, bs_size]; simp only [List.length_cons, List.length_nil]; omega)) ?_
    rw [bs_app]
    refine .leaf ⟨rfl, fun b4 w4 st => ⟨6 - 4, by omega, 4, _, rfl, by omega, ?_, ?_, st.conv rfl rfl⟩⟩
    · rw [List.length_append, hm]; rfl
    · rw [hf, List.append_assoc, enc4Q_take _ 3 _ rfl]
  · refine StL.pieceD sound4 thom4 1000 (by decide) (by kernel_rfl) (rn_it4 g (bs l)) (st.conv rfl rfl) ?_
    refine Holds.yesB (Nat.ble_eq_true_of_le (by rw [bs_size, bs_size]; simp only [List.length_cons, List.length_nil]; omega)) ?_
    rw [bs_app]
    refine .leaf ⟨rfl, fun b4 w4 st => ⟨6 - 5, by omega, 5, _, rfl, by omega, ?_, ?_, st.conv rfl rfl⟩⟩
    · rw [List.length_append, hm]; rfl
    · rw [hf, List.append_assoc, enc4Q_take _ 4 _ rfl]
  · refine StL.pieceD sound4 thom4 1000 (by decide) (by kernel_rfl) (rn_it5 g (bs l)) (st.conv rfl rfl) ?_
    refine Holds.yesB (Nat.ble_eq_true_of_le (by rw [bs_size, bs_size]; simp only [List.length_cons, List.length_nil]; omega)) ?_
    rw [bs_app]
    refine .leaf ⟨rfl, fun b4 w4 st => ⟨6 - 6, by omega, 6, _, rfl, by omega, ?_, ?_, st.conv rfl rfl⟩⟩
    · rw [List.length_append, hm]; rfl
    · rw [hf, List.append_assoc, enc4Q_take _ 5 _ rfl]
  · refine StL.pieceD sound4 thom4 1000 (by decide) (by kernel_rfl) (rn_it6 g (bs l)) (st.conv rfl rfl) ?_
    refine Holds.leaf ⟨rfl, fun b4 w4 st => ?_⟩
    show Code.wp E4.P (seqR (postC 5 rbC)) _ b4 w4
    refine StL.pieceD sound4 thom4 1000 (by decide) (by kernel_rfl) (rn_fin g (bs l)) st ?_
    refine Holds.leaf ⟨rfl, fun b9 w9 st => rb_end hro _ _ _ _ _ b9 w9 st ?_⟩
    rw [rbV, if_pos hck, hf, encQ, List.flatMap_nil, List.append_nil]
    rfl
theorem rb_arr (g : SetD) (len : Nat) (k s : Nat → Int) (b : Nat → ByteArray) (n : Nat → Int) {ρ0 : Emb} {w : World} {args' : Array Value} (hG : rbG g (opsL len k s b n) = true) (hlen : len ≤ 70368744177664) (hro : ∀ i g, ρ0 i = .img g → g.rw = false)
    (wr : WRel ρ0 (mkH [opsO len k s b n]).den w) (ra : VsRel ρ0 (dens [scrS g (slO len)]) args'.toList) :
    Calls E4.P 14 args' w fun e w' => e = .returned (rbV g (opsL len k s b n)) ∧ Below w.heap.size w w' := by
  refine calls_StL rbF_some rbC_some rbF_n (by decide) (by simp) wr ra fun bb st => ?_
  refine StL.preD sound4 thom4 1000 4 (by decide) rbC_plans (by kernel_rfl) (rb_pre g len k s b n) st ?_
  refine Holds.yesB (bleQ len) (Holds.yesB (Nat.ble_eq_true_of_le hlen) (Holds.node (fun h0 => ?_) fun h0 => ?_))
  · have h0 : checkQ r9V oneV g (opsL len k s b n) ≠ 0 := by simpa using h0
    exact .leaf ⟨rfl, fun b1 w1 st => rb_end hro _ _ _ _ _ b1 w1 st (by rw [rbV, if_neg h0])⟩
  have hck : checkQ r9V oneV g (opsL len k s b n) = 0 := by simpa using h0
  have hsum : sumN (opsL len k s b n) ≤ 1000000000 := by
    unfold rbG at hG
    rw [hck] at hG
    simpa using hG
  refine Holds.node (fun h1 => Holds.node (fun h2 => Holds.node (fun h3 => ?_) fun h3 => ?_) fun h2 => Holds.node (fun h3 => ?_) fun h3 => ?_) fun h1 => Holds.node (fun h2 => Holds.node (fun h3 => ?_) fun h3 => ?_) fun h2 => Holds.node (fun h3 => ?_) fun h3 => ?_
  · refine .leaf ⟨rfl, fun b1 w1 st => ?_⟩
    exact rb_loop1 g len k s b n hlen hsum hro hck (nbN g.gx 1 ++ nbN g.gy 1 ++ nbN g.dt 1) (by rw [hdQ, h1, h2, h3]; rfl) rfl b1 w1 (st.conv rfl rfl)
  · refine .leaf ⟨rfl, fun b1 w1 st => ?_⟩
    exact rb_loop1 g len k s b n hlen hsum hro hck (nbN g.gx 1 ++ nbN g.gy 1 ++ nbN g.dt 0) (by rw [hdQ, h1, h2, h3]; rfl) rfl b1 w1 (st.conv rfl rfl)
  · refine .leaf ⟨rfl, fun b1 w1 st => ?_⟩
    exact rb_loop1 g len k s b n hlen hsum hro hck (nbN g.gx 1 ++ nbN g.gy 0 ++ nbN g.dt 1) (by rw [hdQ, h1, h2, h3]; rfl) rfl b1 w1 (st.conv rfl rfl)
  · refine .leaf ⟨rfl, fun b1 w1 st => ?_⟩
    exact rb_loop1 g len k s b n hlen hsum hro hck (nbN g.gx 1 ++ nbN g.gy 0 ++ nbN g.dt 0) (by rw [hdQ, h1, h2, h3]; rfl) rfl b1 w1 (st.conv rfl rfl)
  · refine .leaf ⟨rfl, fun b1 w1 st => ?_⟩
    exact rb_loop1 g len k s b n hlen hsum hro hck (nbN g.gx 0 ++ nbN g.gy 1 ++ nbN g.dt 1) (by rw [hdQ, h1, h2, h3]; rfl) rfl b1 w1 (st.conv rfl rfl)
  · refine .leaf ⟨rfl, fun b1 w1 st => ?_⟩
    exact rb_loop1 g len k s b n hlen hsum hro hck (nbN g.gx 0 ++ nbN g.gy 1 ++ nbN g.dt 0) (by rw [hdQ, h1, h2, h3]; rfl) rfl b1 w1 (st.conv rfl rfl)
  · refine .leaf ⟨rfl, fun b1 w1 st => ?_⟩
    exact rb_loop1 g len k s b n hlen hsum hro hck (nbN g.gx 0 ++ nbN g.gy 0 ++ nbN g.dt 1) (by rw [hdQ, h1, h2, h3]; rfl) rfl b1 w1 (st.conv rfl rfl)
  · refine .leaf ⟨rfl, fun b1 w1 st => ?_⟩
    exact rb_loop1 g len k s b n hlen hsum hro hck (nbN g.gx 0 ++ nbN g.gy 0 ++ nbN g.dt 0) (by rw [hdQ, h1, h2, h3]; rfl) rfl b1 w1 (st.conv rfl rfl)
theorem rb_nil (g : SetD) (w : World) : Calls Tryz.prog 14 (dens [scrS g nilO]).toArray w fun e w' => e = .returned (rbV g []) ∧ Below w.heap.size w w' := by
  have wr : WRel (wEmb []) (mkH []).den w := wEmb_WRel (l := []) (O := []) rfl (by decide) (fun s hs => by cases hs) fun i s o hs => by simp at hs
  have hro := wEmb_ro (l := []) (fun s hs => by cases hs)
  refine calls_StL (E := E4) (sargs := [scrS g nilO]) rbF_some rbC_some rbF_n (by decide) (by simp) wr (.cons _ _ _ _ nilW_rel .nil) fun bb st => ?_
  refine StL.preD sound4 thom4 1000 4 (by decide) rbC_plans (by kernel_rfl) (rn_pre g) st ?_
  refine Holds.node (fun h0 => ?_) fun h0 => ?_
  · have h0 : checkQ r9V oneV g [] ≠ 0 := by simpa using h0
    exact .leaf ⟨rfl, fun b1 w1 st => rb_end hro _ _ _ _ _ b1 w1 st (by rw [rbV, if_neg h0])⟩
  have hck : checkQ r9V oneV g [] = 0 := by simpa using h0
  refine Holds.node (fun h1 => Holds.node (fun h2 => Holds.node (fun h3 => ?_) fun h3 => ?_) fun h2 => Holds.node (fun h3 => ?_) fun h3 => ?_) fun h1 => Holds.node (fun h2 => Holds.node (fun h3 => ?_) fun h3 => ?_) fun h2 => Holds.node (fun h3 => ?_) fun h3 => ?_
  · refine .leaf ⟨rfl, fun b1 w1 st => ?_⟩
    exact rn_loop1 g hro hck (nbN g.gx 1 ++ nbN g.gy 1 ++ nbN g.dt 1) (by rw [hdQ, h1, h2, h3]; rfl) rfl b1 w1 (st.conv rfl rfl)
  · refine .leaf ⟨rfl, fun b1 w1 st => ?_⟩
    exact rn_loop1 g hro hck (nbN g.gx 1 ++ nbN g.gy 1 ++ nbN g.dt 0) (by rw [hdQ, h1, h2, h3]; rfl) rfl b1 w1 (st.conv rfl rfl)
  · refine .leaf ⟨rfl, fun b1 w1 st => ?_⟩
    exact rn_loop1 g hro hck (nbN g.gx 1 ++ nbN g.gy 0 ++ nbN g.dt 1) (by rw [hdQ, h1, h2, h3]; rfl) rfl b1 w1 (st.conv rfl rfl)
  · refine .leaf ⟨rfl, fun b1 w1 st => ?_⟩
    exact rn_loop1 g hro hck (nbN g.gx 1 ++ nbN g.gy 0 ++ nbN g.dt 0) (by rw [hdQ, h1, h2, h3]; rfl) rfl b1 w1 (st.conv rfl rfl)
  · refine .leaf ⟨rfl, fun b1 w1 st => ?_⟩
    exact rn_loop1 g hro hck (nbN g.gx 0 ++ nbN g.gy 1 ++ nbN g.dt 1) (by rw [hdQ, h1, h2, h3]; rfl) rfl b1 w1 (st.conv rfl rfl)
  · refine .leaf ⟨rfl, fun b1 w1 st => ?_⟩
    exact rn_loop1 g hro hck (nbN g.gx 0 ++ nbN g.gy 1 ++ nbN g.dt 0) (by rw [hdQ, h1, h2, h3]; rfl) rfl b1 w1 (st.conv rfl rfl)
  · refine .leaf ⟨rfl, fun b1 w1 st => ?_⟩
    exact rn_loop1 g hro hck (nbN g.gx 0 ++ nbN g.gy 0 ++ nbN g.dt 1) (by rw [hdQ, h1, h2, h3]; rfl) rfl b1 w1 (st.conv rfl rfl)
  · refine .leaf ⟨rfl, fun b1 w1 st => ?_⟩
    exact rn_loop1 g hro hck (nbN g.gx 0 ++ nbN g.gy 0 ++ nbN g.dt 0) (by rw [hdQ, h1, h2, h3]; rfl) rfl b1 w1 (st.conv rfl rfl)
theorem rbV_plain (g : SetD) (ops : List OpD) : plainR (rbV g ops) = true := by
  unfold rbV
  split <;> rfl
theorem tab_rb : TabOK Tryz.prog 14 (scrGA rbG rbV) :=
  scrG_tab rbV_plain (fun g w _ => rb_nil g w) fun g len k s b n _ _ _ hG hl hro wr ra => rb_arr g len k s b n hG hl hro wr ra
end Go.Ev
end
section
set_option maxRecDepth 100000
namespace Go.Ev
open Go.Proofs Go.RowKit
/-! The table of the law HistoryBytes. -/
noncomputable section
def hbS (g : SetD) (ops : List OpD) : SV := .tuple [.str false (bif checkR csV opV g ops == 0 then bs (encB g ops) else ⟨#[]⟩), .int .i64 false (checkR csV opV g ops)]
def rbS (g : SetD) (ops : List OpD) : SV := .tuple [.str false (bif checkQ r9V oneV g ops == 0 then bs (encQ g ops) else ⟨#[]⟩), .int .i64 false (checkQ r9V oneV g ops)]
end
theorem hbS_den (g : SetD) (ops : List OpD) : (hbS g ops).den = hbV g ops := by
  unfold hbV
  split
  · rename_i h
    simp [hbS, SV.den, dens, h]
  · rename_i h
    have : (checkR csV opV g ops == 0) = false := by simpa using h
    simp [hbS, SV.den, dens, this]
theorem rbS_den (g : SetD) (ops : List OpD) : (rbS g ops).den = rbV g ops := by
  unfold rbV
  split
  · rename_i h
    simp [rbS, SV.den, dens, h]
  · rename_i h
    have : (checkQ r9V oneV g ops == 0) = false := by simpa using h
    simp [rbS, SV.den, dens, this]
noncomputable def E5 : Env := (E4.add (one 13 (scrA hbV))).add (one 14 (scrGA rbG rbV))
noncomputable def S5 : STab := addS (oneSym 14 (scrGSym rbG rbS)) (addS (oneSym 13 (scrSym hbS)) S4)
theorem sound5 : Sound E5 := (sound4.add tab_hb).add tab_rb
theorem thom5 : TabHom E5 S5 := (thom4.add (scr_hom hbS_den)).add (scrG_hom rbS_den)
end Go.Ev
end
section
set_option maxRecDepth 100000
set_option linter.unusedVariables false
set_option linter.unusedSimpArgs false
namespace Go.Ev
open Go.Proofs Go.RowKit
/-! bagatellelaw10.HistoryBytes -/
theorem be4_nb4 (x : Int) : (be4 (IntKind.u64.wrap x)).map u8 = nb4 (IntKind.u64.wrap x) := by
  simp only [nb4, List.map_cons, List.map_nil, byteV, sh8, p24, p16, p8, p0, fd _ 16777216 (by decide), fd _ 65536 (by decide), fd _ 256 (by decide), fd _ 1 (by decide), u8_mod]
  rw [show IntKind.u64.wrap x / 16777216 = IntKind.u64.wrap x / 256 / 256 / 256 by omega, show IntKind.u64.wrap x / 65536 = IntKind.u64.wrap x / 256 / 256 by omega, Int.ediv_one]
theorem be8_nb8 (x : Int) : (be8 (IntKind.u64.wrap x)).map u8 = nb8 (IntKind.u64.wrap x) := by
  simp only [nb8, nb4, List.cons_append, List.nil_append, List.map_cons, List.map_nil, byteV, sh8, p56, p48, p40, p32, p24, p16, p8, p0, fd _ 72057594037927936 (by decide), fd _ 281474976710656 (by decide), fd _ 1099511627776 (by decide), fd _ 4294967296 (by decide), fd _ 16777216 (by decide), fd _ 65536 (by decide), fd _ 256 (by decide), fd _ 1 (by decide), u8_mod]
  generalize IntKind.u64.wrap x = v
  rw [show v / 72057594037927936 = v / 256 / 256 / 256 / 256 / 256 / 256 / 256 by omega, show v / 281474976710656 = v / 256 / 256 / 256 / 256 / 256 / 256 by omega, show v / 1099511627776 = v / 256 / 256 / 256 / 256 / 256 by omega, show v / 4294967296 = v / 256 / 256 / 256 / 256 by omega,
    show v / 16777216 = v / 256 / 256 / 256 by omega, show v / 65536 = v / 256 / 256 by omega, Int.ediv_one]
theorem opB_opQ (o : OpD) : opB o = opQ o := by
  unfold opB opQ
  rw [be4_nb4, be4_nb4]
  unfold nb1
  rw [u8_u64, u8_u64]
  by_cases h3 : o.k = 3
  · simp [h3]
  · by_cases h4 : o.k = 4
    · simp [h4]
    · simp [h3, h4]
theorem hdB_hdQ (g : SetD) : hdB g = hdQ g := by
  have e : ∀ b : Bool, [u8 (fl b)] = nb1 (fl b) := fun b => by cases b <;> decide
  unfold hdB hdQ hd27 nbN
  simp only [List.map_append, be8_nb8]
  rw [← e g.gxf, ← e g.gyf, ← e g.dtf]
  simp
theorem encB_encQ (g : SetD) (l : List OpD) : encB g l = encQ g l := by
  unfold encB encQ
  rw [hdB_hdQ]
  congr 1
  · congr 1
    unfold enc4 enc4Q
    congr 1
    funext v
    exact be4_nb4 v
  · congr 1
    funext o
    exact opB_opQ o
noncomputable def hbStr (g : SetD) (l : List OpD) : ByteArray := bif checkR csV opV g l == 0 then bs (encB g l) else noBytes
noncomputable def rbStr (g : SetD) (l : List OpD) : ByteArray := bif checkQ r9V oneV g l == 0 then bs (encQ g l) else noBytes
noncomputable def lawB (g : SetD) (l : List OpD) : Bool := longQ l || (((hbStr g l).toList == (rbStr g l).toList) && ((checkR csV opV g l == checkQ r9V oneV g l) && sameS g l g l))
theorem bytes_law {g : SetD} {l : List OpD} (hx : i64In g.gx) (hy : i64In g.gy) (hd : i64In g.dt) (hb : ∀ op ∈ l, op.b.size ≤ 140737488355328) : lawB g l = true := by
  unfold lawB
  cases h1 : longQ l with
  | true => rfl
  | false =>
    have e := check_eq (csV_r9V hx hy hd) hb h1
    have e2 : hbStr g l = rbStr g l := by unfold hbStr rbStr; rw [e, encB_encQ]
    rw [e, e2]
    simp [sameS_refl]
theorem rbG_ok {g : SetD} {l : List OpD} (hb : ∀ op ∈ l, op.b.size ≤ 140737488355328) (h : longQ l = false) : rbG g l = true := by
  unfold rbG
  by_cases hc : checkQ r9V oneV g l = 0
  · have hl := checkQ_ok hc
    simp only [longQ, decide_eq_false_iff_not] at h
    have hs := sumW_eq l 0 (by omega) hb
    have hs' : sumW 0 l = (sumN l : Int) := by rw [show (0 : Int) = ((0 : Nat) : Int) from rfl, hs, Nat.zero_add]
    rw [hs'] at h
    have : sumN l ≤ 1000000000 := by omega
    simp [this]
  · simp [hc]
noncomputable def wB0 (g : SetD) : Tree SEnd :=
(.node (longQ [])
 (.leaf (.returned (.bool true true)))
 (.node (rbG g [])
  (.node ((hbStr g []).toList == (rbStr g []).toList)
   (.node (checkR csV opV g [] == checkQ r9V oneV g [])
    (.node (sameS g [] g [])
     (.leaf (.returned (.bool true true)))
     (.leaf (.returned (.bool true false)))
    )
    (.leaf (.returned (.bool true false)))
   )
   (.leaf (.returned (.bool true false)))
  )
  .fail
 )
)

noncomputable def wB1 (g : SetD) (len : Nat) (k s : Nat → Int) (b : Nat → ByteArray) (n : Nat → Int) : Tree SEnd :=
(.node ((Nat.div 0 4 + len).ble len)
 (.node (len.ble (70368744177664 : Nat))
  (.node (longQ (opsL len k s b n))
   (.leaf (.returned (.bool true true)))
   (.node ((Nat.div 0 4 + len).ble len)
    (.node (len.beq (0 : Nat))
     (.node ((Nat.div 0 4 + len).ble len)
      (.node (len.ble (70368744177664 : Nat))
       (.node (rbG g (opsL len k s b n))
        (.node ((hbStr g []).toList == (rbStr g (opsL len k s b n)).toList)
         (.node (checkR csV opV g [] == checkQ r9V oneV g (opsL len k s b n))
          (.node ((Nat.div 0 4 + len).ble len)
           (.node (len.ble (70368744177664 : Nat))
            (.node (sameS g [] g (opsL len k s b n))
             (.leaf (.returned (.bool true true)))
             (.leaf (.returned (.bool true false)))
            )
            .fail
           )
           .fail
          )
          (.leaf (.returned (.bool true false)))
         )
         (.leaf (.returned (.bool true false)))
        )
        .fail
       )
       .fail
      )
      .fail
     )
     (.node ((0 + len).ble (70368744177664 : Nat) && capRoom (0 + len) (40 : Nat))
      (.node ((Nat.div 0 4 + (0 + len)).ble len)
       (.node ((0 + len).ble (70368744177664 : Nat))
        (.node ((Nat.div 0 4 + len).ble len)
         (.node (len.ble (70368744177664 : Nat))
          (.node (rbG g (opsL len k s b n))
           (.node ((hbStr g (opsL (0 + len) k s b n)).toList == (rbStr g (opsL len k s b n)).toList)
            (.node (checkR csV opV g (opsL (0 + len) k s b n) == checkQ r9V oneV g (opsL len k s b n))
             (.node ((Nat.div 0 4 + (0 + len)).ble len)
              (.node ((0 + len).ble (70368744177664 : Nat))
               (.node ((Nat.div 0 4 + len).ble len)
                (.node (len.ble (70368744177664 : Nat))
                 (.node (sameS g (opsL (0 + len) k s b n) g (opsL len k s b n))
                  (.leaf (.returned (.bool true true)))
                  (.leaf (.returned (.bool true false)))
                 )
                 .fail
                )
                .fail
               )
               .fail
              )
              .fail
             )
             (.leaf (.returned (.bool true false)))
            )
            (.leaf (.returned (.bool true false)))
           )
           .fail
          )
          .fail
         )
         .fail
        )
        .fail
       )
       .fail
      )
      .fail
     )
    )
    .fail
   )
  )
  .fail
 )
 .fail
)

theorem treeB_0 (g : SetD)  : endT (evalCallS E5 S5 1000 4 [scrS g nilO] (mkH [])) = wB0 g  := by kernel_rfl
theorem holdsB_0 (g : SetD)   (hG : longQ [] = false → rbG g [] = true) : Holds (fun x : SEnd => x.den = .returned (.bool (lawB g []))) (wB0 g ) := by
  have fin : ∀ (v l : Bool), v = lawB g [] → Holds (fun x : SEnd => x.den = .returned (.bool (lawB g []))) (.leaf (.returned (.bool l v))) := fun v l h => Holds.leaf (by rw [← h]; rfl)
  unfold wB0
  try simp only [Nat.zero_add]
  repeat' first
    | exact fin _ _ (by simp_all [lawB, longQ_nil, opsL_zero])
    | refine Holds.yes (by first | exact hG (by assumption)) ?_
    | refine Holds.node (fun _ => ?_) fun _ => ?_
theorem treeB_1 (g : SetD) (len : Nat) (k s : Nat → Int) (b : Nat → ByteArray) (n : Nat → Int) : endT (evalCallS E5 S5 1000 4 [scrS g (slO len)] (mkH [opsO len k s b n])) = wB1 g len k s b n := by kernel_rfl
theorem holdsB_1 (g : SetD) (len : Nat) (k s : Nat → Int) (b : Nat → ByteArray) (n : Nat → Int) (hlen : len ≤ 70368744177664) (hG : longQ (opsL len k s b n) = false → rbG g (opsL len k s b n) = true) : Holds (fun x : SEnd => x.den = .returned (.bool (lawB g (opsL len k s b n)))) (wB1 g len k s b n) := by
  have fin : ∀ (v l : Bool), v = lawB g (opsL len k s b n) → Holds (fun x : SEnd => x.den = .returned (.bool (lawB g (opsL len k s b n)))) (.leaf (.returned (.bool l v))) := fun v l h => Holds.leaf (by rw [← h]; rfl)
  unfold wB1
  try simp only [Nat.zero_add]
  have hlenb : Nat.ble len 70368744177664 = true := Nat.ble_eq_true_of_le hlen
  have hlenc : longQ (opsL len k s b n) = false → (Nat.ble len 70368744177664 && capRoom len 40) = true := fun h => capA (by have := long450 h; rw [opsL_length] at this; exact this)
  repeat' first
    | exact fin _ _ (by simp_all [lawB, longQ_nil, opsL_zero])
    | refine Holds.yes (by first | exact bleA _ | exact hlenb | exact hlenc (by assumption) | exact hG (by assumption)) ?_
    | refine Holds.node (fun _ => ?_) fun _ => ?_
theorem bytes_walk {w : World} {x : Value} {g : SetD} {l : List OpD} (hx : ScrW w x g l) (hG : longQ l = false → rbG g l = true) :
    Calls Tryz.prog 4 #[x] w fun e w' => e = .returned (.bool (lawB g l)) ∧ Below w.heap.size w w' := by
  obtain ⟨o, rfl, hx⟩ := hx
  rcases hx with ⟨rfl, rfl⟩ | ⟨s, hx⟩
  · exact call_of_tree sound5 thom5 1000 (treeB_0 g) (wEmb_ro (l := []) (fun s hs => by cases hs)) (holdsB_0 g hG) rfl
      (wEmb_WRel (l := []) (O := []) rfl (by decide) (fun s hs => by cases hs) fun i s o hs => by simp at hs) (sargs' := [scrS g nilO]) (.cons _ _ _ _ nilW_rel .nil)
  · have hro : ∀ s' ∈ [s], ∀ g, s' = .img g → g.rw = false := fun s hs => by
      obtain rfl := List.mem_singleton.1 hs
      exact hx.ro
    have := holdsB_1 g l.length (fk l) (fs l) (fb l) (fn l) hx.len (by rw [opsL_get]; exact hG)
    rw [opsL_get] at this
    exact call_of_tree sound5 thom5 1000 (treeB_1 g l.length (fk l) (fs l) (fb l) (fn l)) (wEmb_ro hro) this rfl
      (wEmb_WRel (O := [opsO l.length (fk l) (fs l) (fb l) (fn l)]) rfl (by show 1 < most; decide) hro fun i s o hs ho => by
        match i, hs, ho with
        | 0, hs, ho => cases hs; cases ho; exact hx.at _
        | i + 1, hs, ho => simp at hs) (sargs' := [scrS g (slO l.length)]) (.cons _ _ _ _ (scrW_rel (hx.rel (wEmb_at rfl))) .nil)
theorem bytes_true {w : World} {x : Value} {g : SetD} {l : List OpD} (hx : ScrW w x g l) (h1 : i64In g.gx) (h2 : i64In g.gy) (h3 : i64In g.dt) (hb : ∀ op ∈ l, op.b.size ≤ 140737488355328) :
    Calls Tryz.prog 4 #[x] w fun e w' => e = .returned (.bool true) ∧ Below w.heap.size w w' := by
  have := bytes_walk hx (rbG_ok hb)
  rw [bytes_law h1 h2 h3 hb] at this
  exact this
end Go.Ev
end

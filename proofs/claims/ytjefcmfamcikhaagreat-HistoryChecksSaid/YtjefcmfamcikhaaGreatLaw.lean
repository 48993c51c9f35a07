import Derived.Test.YtjefcmfamcikhaaGreatFactL
import Derived.Test.YtjefcmfamcikhaaGreatSpA
import Derived.Test.YtjefcmfamcikhaaGreatSeB
section
set_option maxRecDepth 100000
namespace Go.Ev
open Go.Proofs Go.RowKit
theorem tree_cmp (a : Int) (af : Bool) (b : Int) (bf : Bool) : endT (evalCallS E0 noS 1000 40 [.agg [.int .i64 false a, .bool false af], .agg [.int .i64 false b, .bool false bf]] SH.empty) = T_cmp a af b bf := by kernel_rfl
theorem tab_cmp : TabOK Tryz.prog 40 (scalA (specOf sCmp)) := scal_tab' fun sargs v h => by
  unfold sCmp at h
  split at h
  · rename_i _ a _ af _ b _ bf
    cases h
    refine ⟨rfl, rfl, fun w => scal_of_tree sound0 TabHom.none 1000 (sargs := [.agg [.int .i64 false a, .bool false af], .agg [.int .i64 false b, .bool false bf]]) (tree_cmp a af b bf) rfl rfl (resInt_eq ?_) w⟩
    unfold T_cmp
    repeat' (first | exact .leaf ⟨_, _, rfl⟩ | refine .node (fun _ => ?_) fun _ => ?_)
  · cases h
theorem hom_cmp : ∀ args id, Hom HV (scalS sCmp args id) (scalA (specOf sCmp) (dens args) id) := scal_hom fun args v h => by
  unfold sCmp at h
  split at h
  · cases h; rfl
  · cases h

theorem tree_reach (x : Int) (xf : Bool) (y : Int) (yf : Bool) : endT (evalCallS E0 noS 1000 42 [.int .i64 true 64, .sl 0 (.c 0) ⟨true, 1⟩ 4] (mkH [.cells [.int .i64 false x, .bool false xf, .int .i64 false y, .bool false yf] false])) = T_reach x xf y yf := by kernel_rfl
theorem tab_reach : TabOK Tryz.prog 42 (rowA 4 sReach) := row_tab fun a l n v h hl hp1 hp2 ρ w args' hro wr ra => by
  unfold sReach at h
  split at h
  · rename_i _ m _ x _ xf _ y _ yf
    cases hm : decide (m = 64) with
    | false => rw [hm] at h; cases h
    | true =>
      rw [hm] at h
      cases h
      have hm : m = 64 := by simpa using hm
      subst hm
      have hn : n = 1 := by simp at hl; omega
      subst hn
      have hh : Holds (fun x => ∃ l b, x = .returned (.bool l b)) (T_reach x xf y yf) := by
        unfold T_reach
        repeat' (first | exact .leaf ⟨_, _, rfl⟩ | refine .node (fun _ => ?_) fun _ => ?_)
      exact call_of_tree sound0 TabHom.none 1000 (tree_reach x xf y yf) hro (resBool_eq hh) rfl wr ra
  · cases h
theorem hom_reach : ∀ args id, Hom HV (rowSym 4 sReach args id) (rowA 4 sReach (dens args) id) := row_hom fun a l v h => by
  unfold sReach at h
  split at h
  · rename_i _ m _ x _ xf _ y _ yf
    cases hm : decide (m = 64) with
    | false => rw [hm] at h; cases h
    | true =>
      rw [hm] at h
      cases h
      refine ⟨.bool false (reachV x xf y yf), ?_, rfl⟩
      show (bif decide (m = 64) then _ else _) = _
      rw [hm]
      rfl
  · cases h

noncomputable def EL1 : Env := (E0.add (one 40 (scalA (specOf sCmp)))).add (one 42 (rowA 4 sReach))
noncomputable def SL1 : STab := addS (oneSym 42 (rowSym 4 sReach)) (addS (oneSym 40 (scalS sCmp)) noS)
theorem soundL1 : Sound EL1 := (sound0.add tab_cmp).add tab_reach
theorem thomL1 : TabHom EL1 SL1 := (TabHom.none.add hom_cmp).add hom_reach
end Go.Ev
end
section
set_option maxRecDepth 100000
namespace Go.Ev
open Go.Proofs Go.RowKit
abbrev setArg (g : SetD) : List SV := [.agg g.sv]
theorem tree_cs (g : SetD) : endT (evalCallS EL1 SL1 1000 14 (setArg g) SH.empty) = T_cs g.gx g.gxf g.gy g.gyf g.dt g.dtf g.most g.rounds g.sess g.staged g.queue := by kernel_rfl
theorem tree_r9 (g : SetD) : endT (evalCallS EL1 SL1 1000 16 (setArg g) SH.empty) = T_r9 g.gx g.gxf g.gy g.gyf g.dt g.dtf g.most g.rounds g.sess g.staged g.queue := by kernel_rfl
theorem tree_op (o : OpD) : endT (evalCallS EL1 SL1 1000 15 [.agg [.int .i64 false o.k, .int .i64 false o.s, .str false o.b, .int .i64 false o.n]] SH.empty) = T_op o.k o.s o.b o.n := by kernel_rfl
theorem tree_one (o : OpD) : endT (evalCallS EL1 SL1 1000 17 [.agg [.int .i64 false o.k, .int .i64 false o.s, .str false o.b, .int .i64 false o.n]] SH.empty) = T_one o.k o.s o.b o.n := by kernel_rfl

theorem sCs_hom (F : SetD → Int) : ∀ args id, Hom HV (scalS (sCs F) args id) (scalA (specOf (sCs F)) (dens args) id) := scal_hom fun args v h => by
  unfold sCs at h
  split at h
  · cases h; rfl
  · cases h
theorem sOpE_hom (F : OpD → Int) : ∀ args id, Hom HV (scalS (sOpE F) args id) (scalA (specOf (sOpE F)) (dens args) id) := scal_hom fun args v h => by
  unfold sOpE at h
  split at h
  · rename_i l1 k l2 s b l3 n
    cases hb : strOf b with
    | none => rw [hb] at h; cases h
    | some p =>
      obtain ⟨l, t⟩ := p
      rw [hb] at h
      cases h
      have e : dens [.agg [.int .i64 l1 k, .int .i64 l2 s, b, .int .i64 l3 n]] = [.agg #[.int .i64 k, .int .i64 s, .string t, .int .i64 n]] := by simp only [dens, SV.den, strOf_den hb]
      rw [e]
      rfl
  · cases h
theorem sCs_tab {f : FuncId} {F : SetD → Int} (h : ∀ g w, Calls Tryz.prog f (dens (setArg g)).toArray w fun e w' => e = .returned (.int .i64 (F g)) ∧ Below w.heap.size w w') : TabOK Tryz.prog f (scalA (specOf (sCs F))) := scal_tab' fun sargs v hs => by
  unfold sCs at hs
  split at hs
  · rename_i _ a _ af _ b _ bf _ c _ cf _ m _ r _ s _ t _ q
    cases hs
    exact ⟨rfl, rfl, fun w => h ⟨a, af, b, bf, c, cf, m, r, s, t, q⟩ w⟩
  · cases hs
theorem sOpE_tab {f : FuncId} {F : OpD → Int} (h : ∀ o w, Calls Tryz.prog f (dens [.agg [.int .i64 false o.k, .int .i64 false o.s, .str false o.b, .int .i64 false o.n]]).toArray w fun e w' => e = .returned (.int .i64 (F o)) ∧ Below w.heap.size w w') : TabOK Tryz.prog f (scalA (specOf (sOpE F))) := scal_tab' fun sargs v hs => by
  unfold sOpE at hs
  split at hs
  · rename_i l1 k l2 s b l3 n
    cases hb : strOf b with
    | none => rw [hb] at hs; cases hs
    | some p =>
      obtain ⟨l, t⟩ := p
      rw [hb] at hs
      cases hs
      have e : dens [.agg [.int .i64 l1 k, .int .i64 l2 s, b, .int .i64 l3 n]] = [.agg #[.int .i64 k, .int .i64 s, .string t, .int .i64 n]] := by simp only [dens, SV.den, strOf_den hb]
      rw [e]
      exact ⟨rfl, rfl, fun w => h ⟨k, s, t, n⟩ w⟩
  · cases hs
theorem tab_cs : TabOK Tryz.prog 14 (scalA (specOf (sCs csV))) := sCs_tab fun g w => scal_of_tree soundL1 thomL1 1000 (tree_cs g) rfl rfl (resInt_eq (by
  unfold T_cs
  repeat' (first | exact .leaf ⟨_, _, rfl⟩ | refine .node (fun _ => ?_) fun _ => ?_))) w
theorem tab_r9 : TabOK Tryz.prog 16 (scalA (specOf (sCs r9V))) := sCs_tab fun g w => scal_of_tree soundL1 thomL1 1000 (tree_r9 g) rfl rfl (resInt_eq (by
  unfold T_r9
  repeat' (first | exact .leaf ⟨_, _, rfl⟩ | refine .node (fun _ => ?_) fun _ => ?_))) w
theorem tab_op : TabOK Tryz.prog 15 (scalA (specOf (sOpE opV))) := sOpE_tab fun o w => scal_of_tree soundL1 thomL1 1000 (tree_op o) rfl rfl (resInt_eq (by
  unfold T_op
  repeat' (first | exact .leaf ⟨_, _, rfl⟩ | refine .node (fun _ => ?_) fun _ => ?_))) w
theorem tab_one : TabOK Tryz.prog 17 (scalA (specOf (sOpE oneV))) := sOpE_tab fun o w => scal_of_tree soundL1 thomL1 1000 (tree_one o) rfl rfl (resInt_eq (by
  unfold T_one
  repeat' (first | exact .leaf ⟨_, _, rfl⟩ | refine .node (fun _ => ?_) fun _ => ?_))) w
noncomputable def E2 : Env := (((EL1.add (one 14 (scalA (specOf (sCs csV))))).add (one 16 (scalA (specOf (sCs r9V))))).add (one 15 (scalA (specOf (sOpE opV))))).add (one 17 (scalA (specOf (sOpE oneV))))
noncomputable def S2 : STab := addS (oneSym 17 (scalS (sOpE oneV))) (addS (oneSym 15 (scalS (sOpE opV))) (addS (oneSym 16 (scalS (sCs r9V))) (addS (oneSym 14 (scalS (sCs csV))) SL1)))
theorem sound2 : Sound E2 := (((soundL1.add tab_cs).add tab_r9).add tab_op).add tab_one
theorem thom2 : TabHom E2 S2 := (((thomL1.add (sCs_hom csV)).add (sCs_hom r9V)).add (sOpE_hom opV)).add (sOpE_hom oneV)
end Go.Ev
end
section
set_option maxRecDepth 100000
namespace Go.Ev
open Go.Proofs Go.RowKit
noncomputable def ckC : Code := match Tryz.prog.funcs[7]? with | some fn => fn.body.getD .skip | none => .skip
noncomputable def ckF : Func := match Tryz.prog.funcs[7]? with | some fn => fn | none => default
theorem ckF_some : Tryz.prog.funcs[7]? = some ckF := by kernel_rfl
theorem ckC_some : ckF.body = some ckC := by kernel_rfl
theorem ckF_n : ckF.ntmps = 52 := by kernel_rfl
theorem ckC_plans : plansIn ckC = true := by kernel_rfl
noncomputable abbrev ckO (g : SetD) (len : Nat) (k s : Nat → Int) (b : Nat → ByteArray) (n : Nat → Int) : List SObj := [opsO len k s b n, .cells (g.sv ++ [.sl 0 (.c 0) ⟨false, len⟩ 4]) true]
set_option maxRecDepth 100000 in
theorem check_arr (g : SetD) (len : Nat) (k s : Nat → Int) (b : Nat → ByteArray) (n : Nat → Int) {ρ0 : Emb} {w : World} {args' : Array Value} (hro : ∀ i g, ρ0 i = .img g → g.rw = false)
    (wr : WRel ρ0 (mkH [opsO len k s b n]).den w) (ra : VsRel ρ0 (dens [.agg (g.sv ++ [slO len])]) args'.toList) :
    Calls E2.P 7 args' w fun e w' => e = .returned (.int .i64 (checkR csV opV g (opsL len k s b n))) ∧ Below w.heap.size w w' := by
  refine calls_StL ckF_some ckC_some ckF_n (by decide) (by simp) wr ra fun bb st => ?_
  -- the end of each way
  have fin : ∀ (v : Int) (l : Bool) b1 w1, StL ρ0 w 52 [(2, .int .i64 l v)] [] b1 w1 → v = checkR csV opV g (opsL len k s b n) → Leaves E2.P ckF b1.tmps (fun e w' => e = .returned (.int .i64 (checkR csV opV g (opsL len k s b n))) ∧ Below w.heap.size w w') b1.defers .returning w1 := by
    intro v l b1 w1 st hv
    refine StL.finish (vs := [.int .i64 l v]) (fun j => by kernel_rfl) st fun ρ v' rv _ fr => ?_
    have := plainR_eq (v := .int .i64 v) rfl rv
    exact ⟨by rw [this, hv], below_of_ro hro fr⟩
  refine StL.pre sound2 thom2 1000 3 (V := vsel ⟨[1, 2, 4], [0, 2]⟩ ⟨[2], []⟩ ⟨[], []⟩) (T := .node (csV g != 0) (.leaf ⟨.ret, [.int .i64 false (csV g)], []⟩) (.node (decide ((len : Int) > 400)) (.leaf ⟨.ret, [.int .i64 true 6], []⟩)
    (.leaf ⟨.normal, [.ptr 1 (.c 0), .int .i64 true 0, .int .i64 true 0], ckO g len k s b n⟩)))
    (by decide) (vok _ _ _ (by decide) (by decide) (by decide)) ckC_plans (by kernel_rfl) (fun j => by kernel_rfl) st ?_
  refine Holds.node (fun h0 => ?_) fun h0 => Holds.node (fun h1 => ?_) fun h1 => ?_
  · exact .leaf ⟨rfl, fun b1 w1 st => fin _ _ b1 w1 st (by unfold checkR; rw [if_neg (by simpa using h0)])⟩
  · exact .leaf ⟨rfl, fun b1 w1 st => fin _ _ b1 w1 st (by unfold checkR; rw [if_pos (by simpa using h0), if_pos (by rw [opsL_length]; simp at h1; omega)])⟩
  have hcs : csV g = 0 := by simpa using h0
  have hl : len ≤ 400 := by simp at h1; omega
  have hres : checkR csV opV g (opsL len k s b n) = if lensR 0 (opsL len k s b n) = true then 6 else firstE opV (opsL len k s b n) := by
    unfold checkR
    rw [if_pos hcs, if_neg (by rw [opsL_length]; omega)]
  refine .leaf ⟨rfl, fun b1 w1 st => ?_⟩
  show (postC 4 ckC).wp E2.P (bodyPostD E2.P ckF _) b1 w1
  -- the first loop
  refine wp_seqP (by kernel_rfl) ?_
  refine wp_seqP (by kernel_rfl) ?_
  refine StL.piece sound2 thom2 1000 (V := vsel ⟨[1, 2, 4, 21, 22, 23], [0, 1]⟩ ⟨[2], []⟩ ⟨[], []⟩) (T := .leaf ⟨.normal, [.ptr 1 (.c 0), .int .i64 true 0, .int .i64 true 0, slO len, .int .i64 false len, .int .i64 true 0], ckO g len k s b n⟩)
    (by decide) (vok _ _ _ (by decide) (by decide) (by decide)) (by kernel_rfl) (fun j => by kernel_rfl) st ?_
  refine Holds.leaf ⟨rfl, fun b2 w2 st => ?_⟩
  show Code.wp E2.P (seqR (seqL (postC 4 ckC))) _ b2 w2
  refine wp_blockP (by kernel_rfl) ?_
  refine wp_loopP (by kernel_rfl) (fun m x w' => ∃ (i : Nat) (acc : Int), m = len - i ∧ i ≤ len ∧ lensR 0 (opsL len k s b n) = lensR acc ((opsL len k s b n).drop i) ∧
    StL ρ0 w 52 ([1, 2, 4, 21, 22, 23].zip [.ptr 1 (.c 0), .int .i64 true 0, .int .i64 false acc, slO len, .int .i64 false len, .int .i64 false i]) (ckO g len k s b n) x w') ?_ ⟨0, 0, rfl, Nat.zero_le _, by simp, st.conv rfl rfl⟩
  rintro _ b3 w3 ⟨i, acc, rfl, hi, hacc, st⟩
  refine StL.piece sound2 thom2 1000 (V := vsel ⟨[1, 2, 4, 21, 22, 23], [0, 1]⟩ ⟨[2], []⟩ ⟨[1, 2], [0, 1]⟩) (T := .node (decide ((i : Int) < (len : Int))) (.node (decide ((0 : Int) ≤ (i : Int)) && (i : Int).toNat.blt len) (.node (i.blt len)
      (.node (decide (((b i).size : Int) > IntKind.i64.wrap (65536 - acc))) (.leaf ⟨.ret, [.int .i64 true 6], []⟩)
        (.leaf ⟨.normal, [.ptr 1 (.c 0), .int .i64 true 0, .int .i64 false (IntKind.i64.wrap (acc + ((b i).size : Int))), slO len, .int .i64 false len, .int .i64 false (IntKind.i64.wrap ((i : Int) + 1))], ckO g len k s b n⟩)) .fail) .fail)
      (.leaf ⟨.exit 0, [.ptr 1 (.c 0), .int .i64 true 0], ckO g len k s b n⟩))
    (by decide) (vok _ _ _ (by decide) (by decide) (by decide)) (by kernel_rfl) (fun j => by kernel_rfl) st ?_
  refine Holds.node (fun h2 => ?_) fun h2 => ?_
  · have hlt : i < len := by simpa using h2
    have hblt : i.blt len = true := blt_true hlt
    refine Holds.node (fun _ => Holds.node (fun _ => Holds.node (fun h3 => ?_) fun h3 => ?_) fun hf => absurd hf (by rw [hblt]; decide)) fun hf => absurd hf (by simp [hblt])
    · refine .leaf ⟨rfl, fun b4 w4 st => ?_⟩
      refine fin _ _ b4 w4 st ?_
      rw [hres, hacc, opsL_drop hlt]
      simp only [decide_eq_true_eq] at h3
      rw [lensR, if_pos h3, if_pos rfl]
    · refine .leaf ⟨rfl, fun b4 w4 st => ?_⟩
      simp only [decide_eq_false_iff_not] at h3
      refine ⟨len - (i + 1), by omega, i + 1, IntKind.i64.wrap (acc + ((b i).size : Int)), rfl, hlt, ?_, st.conv ?_ rfl⟩
      · rw [hacc, opsL_drop hlt, lensR, if_neg h3]
      · have hw : IntKind.i64.wrap ((i : Int) + 1) = ((i + 1 : Nat) : Int) := wrap64_small (n := i + 1) (by omega)
        simp only [dens, SV.den, hw]
  · have hge : i = len := by simp at h2; omega
    refine .leaf ⟨rfl, fun b4 w4 st => ?_⟩
    have hlen0 : lensR 0 (opsL len k s b n) = false := by
      rw [hacc, hge, List.drop_eq_nil_of_le (by rw [opsL_length]; exact Nat.le_refl _)]
      rfl
    have hres2 : checkR csV opV g (opsL len k s b n) = firstE opV (opsL len k s b n) := by rw [hres, hlen0]; rfl
    show Code.wp E2.P (seqR (postC 4 ckC)) _ b4 w4
    -- the second loop
    refine wp_seqP (by kernel_rfl) ?_
    refine wp_seqP (by kernel_rfl) ?_
    refine StL.piece sound2 thom2 1000 (V := vsel ⟨[1, 2, 40, 41, 42], [0, 1]⟩ ⟨[2], []⟩ ⟨[], []⟩) (T := .leaf ⟨.normal, [.ptr 1 (.c 0), .int .i64 true 0, slO len, .int .i64 false len, .int .i64 true 0], ckO g len k s b n⟩)
      (by decide) (vok _ _ _ (by decide) (by decide) (by decide)) (by kernel_rfl) (fun j => by kernel_rfl) st ?_
    refine Holds.leaf ⟨rfl, fun b5 w5 st => ?_⟩
    show Code.wp E2.P (seqR (seqL (seqR (postC 4 ckC)))) _ b5 w5
    refine wp_blockP (by kernel_rfl) ?_
    refine wp_loopP (by kernel_rfl) (fun m x w' => ∃ i : Nat, m = len - i ∧ i ≤ len ∧ firstE opV (opsL len k s b n) = firstE opV ((opsL len k s b n).drop i) ∧
      StL ρ0 w 52 ([1, 2, 40, 41, 42].zip [.ptr 1 (.c 0), .int .i64 true 0, slO len, .int .i64 false len, .int .i64 false i]) (ckO g len k s b n) x w') ?_ ⟨0, rfl, Nat.zero_le _, by simp, st.conv rfl rfl⟩
    rintro _ b6 w6 ⟨i, rfl, hi, hacc, st⟩
    refine StL.piece sound2 thom2 1000 (V := vsel ⟨[1, 2, 40, 41, 42], [0, 1]⟩ ⟨[2], []⟩ ⟨[1, 2], [0, 1]⟩) (T := .node (decide ((i : Int) < (len : Int))) (.node (decide ((0 : Int) ≤ (i : Int)) && (i : Int).toNat.blt len) (.node (i.blt len)
        (.node (opV ⟨k i, s i, b i, n i⟩ != 0) (.leaf ⟨.ret, [.int .i64 false (opV ⟨k i, s i, b i, n i⟩)], []⟩)
          (.leaf ⟨.normal, [.ptr 1 (.c 0), .int .i64 true 0, slO len, .int .i64 false len, .int .i64 false (IntKind.i64.wrap ((i : Int) + 1))], ckO g len k s b n⟩)) .fail) .fail)
        (.leaf ⟨.exit 2, [.ptr 1 (.c 0), .int .i64 true 0], ckO g len k s b n⟩))
      (by decide) (vok _ _ _ (by decide) (by decide) (by decide)) (by kernel_rfl) (fun j => by kernel_rfl) st ?_
    refine Holds.node (fun h2 => ?_) fun h2 => ?_
    · have hlt : i < len := by simpa using h2
      have hblt : i.blt len = true := blt_true hlt
      refine Holds.node (fun _ => Holds.node (fun _ => Holds.node (fun h3 => ?_) fun h3 => ?_) fun hf => absurd hf (by rw [hblt]; decide)) fun hf => absurd hf (by simp [hblt])
      · refine .leaf ⟨rfl, fun b7 w7 st => ?_⟩
        refine fin _ _ b7 w7 st ?_
        rw [hres2, hacc, opsL_drop hlt, firstE, if_neg (by simpa using h3)]
      · refine .leaf ⟨rfl, fun b7 w7 st => ?_⟩
        refine ⟨len - (i + 1), by omega, i + 1, rfl, hlt, ?_, st.conv ?_ rfl⟩
        · rw [hacc, opsL_drop hlt, firstE, if_pos (by simpa using h3)]
        · have hw : IntKind.i64.wrap ((i : Int) + 1) = ((i + 1 : Nat) : Int) := wrap64_small (n := i + 1) (by omega)
          simp only [dens, SV.den, hw]
    · have hge : i = len := by simp at h2; omega
      refine .leaf ⟨rfl, fun b7 w7 st => ?_⟩
      have hz : checkR csV opV g (opsL len k s b n) = 0 := by
        rw [hres2, hacc, hge, List.drop_eq_nil_of_le (by rw [opsL_length]; exact Nat.le_refl _)]
        rfl
      show Code.wp E2.P (seqR (seqR (postC 4 ckC))) _ b7 w7
      refine StL.piece sound2 thom2 1000 (V := vsel ⟨[], []⟩ ⟨[2], []⟩ ⟨[], []⟩) (T := .leaf ⟨.ret, [.int .i64 true 0], []⟩)
        (by decide) (vok _ _ _ (by decide) (by decide) (by decide)) (by kernel_rfl) (fun j => by kernel_rfl) st ?_
      exact Holds.leaf ⟨rfl, fun b8 w8 st => fin _ _ b8 w8 st hz.symm⟩

theorem check_nil (g : SetD) (w : World) : Calls Tryz.prog 7 (dens [scrS g nilO]).toArray w fun e w' => e = .returned (.int .i64 (checkR csV opV g [])) ∧ Below w.heap.size w w' := by
  have tree : endT (evalCallS E2 S2 1000 7 [scrS g nilO] SH.empty) = .node (csV g != 0) (.leaf (.returned (.int .i64 false (csV g)))) (.leaf (.returned (.int .i64 true 0))) := by kernel_rfl
  refine scal_of_tree sound2 thom2 1000 tree rfl rfl ?_ w
  refine Holds.node (fun h => .leaf ?_) fun h => .leaf ?_
  · unfold checkR
    rw [if_neg (by simpa using h)]
    rfl
  · unfold checkR
    rw [if_pos (by simpa using h)]
    rfl
theorem tab_check : TabOK Tryz.prog 7 (scrA fun g ops => .int .i64 (checkR csV opV g ops)) :=
  scr_tab (fun _ _ => rfl) check_nil fun g len k s b n _ _ _ _hl hro wr ra => check_arr g len k s b n hro wr ra
end Go.Ev
end
section
set_option maxRecDepth 100000
namespace Go.Ev
open Go.Proofs Go.RowKit
noncomputable def rkC : Code := match Tryz.prog.funcs[8]? with | some fn => fn.body.getD .skip | none => .skip
noncomputable def rkF : Func := match Tryz.prog.funcs[8]? with | some fn => fn | none => default
theorem rkF_some : Tryz.prog.funcs[8]? = some rkF := by kernel_rfl
theorem rkC_some : rkF.body = some rkC := by kernel_rfl
theorem rkF_n : rkF.ntmps = 54 := by kernel_rfl
theorem rkC_plans : plansIn rkC = true := by kernel_rfl
noncomputable abbrev rkO (g : SetD) (len : Nat) (k s : Nat → Int) (b : Nat → ByteArray) (n : Nat → Int) : List SObj := [opsO len k s b n, .cells (g.sv ++ [.sl 0 (.c 0) ⟨false, len⟩ 4]) true]
theorem rcheck_arr (g : SetD) (len : Nat) (k s : Nat → Int) (b : Nat → ByteArray) (n : Nat → Int) {ρ0 : Emb} {w : World} {args' : Array Value} (hlen : len ≤ 70368744177664) (hro : ∀ i g, ρ0 i = .img g → g.rw = false)
    (wr : WRel ρ0 (mkH [opsO len k s b n]).den w) (ra : VsRel ρ0 (dens [scrS g (slO len)]) args'.toList) :
    Calls E2.P 8 args' w fun e w' => e = .returned (.int .i64 (checkQ r9V oneV g (opsL len k s b n))) ∧ Below w.heap.size w w' := by
  refine calls_StL rkF_some rkC_some rkF_n (by decide) (by simp) wr ra fun bb st => ?_
  have fin : ∀ (v : Int) (l : Bool) b1 w1, StL ρ0 w 54 [(2, .int .i64 l v)] [] b1 w1 → v = checkQ r9V oneV g (opsL len k s b n) → Leaves E2.P rkF b1.tmps (fun e w' => e = .returned (.int .i64 (checkQ r9V oneV g (opsL len k s b n))) ∧ Below w.heap.size w w') b1.defers .returning w1 := by
    intro v l b1 w1 st hv
    refine StL.finish (vs := [.int .i64 l v]) (fun j => by kernel_rfl) st fun ρ v' rv _ fr => ?_
    have := plainR_eq (v := .int .i64 v) rfl rv
    exact ⟨by rw [this, hv], below_of_ro hro fr⟩
  refine StL.pre sound2 thom2 1000 2 (V := vsel ⟨[1, 2, 4], [0, 2]⟩ ⟨[2], []⟩ ⟨[], []⟩) (T := .node (r9V g != 0) (.leaf ⟨.ret, [.int .i64 false (r9V g)], []⟩) (.leaf ⟨.normal, [.ptr 1 (.c 0), .int .i64 true 0, .int .i64 true 0], rkO g len k s b n⟩))
    (by decide) (vok _ _ _ (by decide) (by decide) (by decide)) rkC_plans (by kernel_rfl) (fun j => by kernel_rfl) st ?_
  refine Holds.node (fun h0 => ?_) fun h0 => ?_
  · exact .leaf ⟨rfl, fun b1 w1 st => fin _ _ b1 w1 st (by unfold checkQ; rw [if_neg (by simpa using h0)])⟩
  have hcs : r9V g = 0 := by simpa using h0
  have hres : checkQ r9V oneV g (opsL len k s b n) = if 400 < len ∨ 65536 < sumW 0 (opsL len k s b n) then 6 else firstE oneV (opsL len k s b n) := by
    unfold checkQ
    rw [if_pos hcs, opsL_length]
  refine .leaf ⟨rfl, fun b1 w1 st => ?_⟩
  show (postC 3 rkC).wp E2.P (bodyPostD E2.P rkF _) b1 w1
  refine wp_seqP (by kernel_rfl) ?_
  refine wp_seqP (by kernel_rfl) ?_
  refine StL.piece sound2 thom2 1000 (V := vsel ⟨[1, 2, 4, 5], [0, 1]⟩ ⟨[2], []⟩ ⟨[], []⟩) (T := .leaf ⟨.normal, [.ptr 1 (.c 0), .int .i64 true 0, .int .i64 true 0, .int .i64 true 0], rkO g len k s b n⟩)
    (by decide) (vok _ _ _ (by decide) (by decide) (by decide)) (by kernel_rfl) (fun j => by kernel_rfl) st ?_
  refine Holds.leaf ⟨rfl, fun b2 w2 st => ?_⟩
  show Code.wp E2.P (seqR (seqL (postC 3 rkC))) _ b2 w2
  refine wp_blockP (by kernel_rfl) ?_
  refine wp_loopP (by kernel_rfl) (fun m x w' => ∃ (i : Nat) (acc : Int), m = len - i ∧ i ≤ len ∧ sumW 0 (opsL len k s b n) = sumW acc ((opsL len k s b n).drop i) ∧
    StL ρ0 w 54 ([1, 2, 4, 5].zip [.ptr 1 (.c 0), .int .i64 true 0, .int .i64 false acc, .int .i64 false i]) (rkO g len k s b n) x w') ?_ ⟨0, 0, rfl, Nat.zero_le _, by simp, st.conv rfl rfl⟩
  rintro _ b3 w3 ⟨i, acc, rfl, hi, hacc, st⟩
  refine StL.piece sound2 thom2 1000 (V := vsel ⟨[1, 2, 4, 5], [0, 1]⟩ ⟨[2], []⟩ ⟨[1, 2, 4], [0, 1]⟩) (T := .node (decide ((i : Int) < (len : Int))) (.node (decide ((0 : Int) ≤ (i : Int)) && (i : Int).toNat.blt len) (.node (i.blt len)
        (.leaf ⟨.normal, [.ptr 1 (.c 0), .int .i64 true 0, .int .i64 false (IntKind.i64.wrap (acc + ((b i).size : Int))), .int .i64 false (IntKind.i64.wrap ((i : Int) + 1))], rkO g len k s b n⟩) .fail) .fail)
      (.leaf ⟨.exit 0, [.ptr 1 (.c 0), .int .i64 true 0, .int .i64 false acc], rkO g len k s b n⟩))
    (by decide) (vok _ _ _ (by decide) (by decide) (by decide)) (by kernel_rfl) (fun j => by kernel_rfl) st ?_
  refine Holds.node (fun h2 => ?_) fun h2 => ?_
  · have hlt : i < len := by simpa using h2
    have hblt : i.blt len = true := blt_true hlt
    refine Holds.node (fun _ => Holds.node (fun _ => ?_) fun hf => absurd hf (by rw [hblt]; decide)) fun hf => absurd hf (by simp [hblt])
    refine .leaf ⟨rfl, fun b4 w4 st => ?_⟩
    refine ⟨len - (i + 1), by omega, i + 1, IntKind.i64.wrap (acc + ((b i).size : Int)), rfl, hlt, ?_, st.conv ?_ rfl⟩
    · rw [hacc, opsL_drop hlt, sumW]
    · simp only [dens, SV.den, wrap_succ hlt hlen]
  · have hge : i = len := by simp at h2; omega
    refine .leaf ⟨rfl, fun b4 w4 st => ?_⟩
    have hsum : sumW 0 (opsL len k s b n) = acc := by
      rw [hacc, hge, List.drop_eq_nil_of_le (by rw [opsL_length]; exact Nat.le_refl _)]
      rfl
    show Code.wp E2.P (seqR (postC 3 rkC)) _ b4 w4
    refine StL.pre sound2 thom2 1000 0 (V := vsel ⟨[1, 2], [0, 1]⟩ ⟨[2], []⟩ ⟨[], []⟩) (T := .node (decide ((len : Int) > 400)) (.leaf ⟨.ret, [.int .i64 true 6], []⟩) (.node (decide (acc > 65536)) (.leaf ⟨.ret, [.int .i64 true 6], []⟩)
        (.leaf ⟨.normal, [.ptr 1 (.c 0), .int .i64 true 0], rkO g len k s b n⟩)))
      (by decide) (vok _ _ _ (by decide) (by decide) (by decide)) (by kernel_rfl) (by kernel_rfl) (fun j => by kernel_rfl) st ?_
    refine Holds.node (fun h3 => ?_) fun h3 => Holds.node (fun h4 => ?_) fun h4 => ?_
    · exact .leaf ⟨rfl, fun b1 w1 st => fin _ _ b1 w1 st (by rw [hres, if_pos (.inl (by simp at h3; omega))])⟩
    · exact .leaf ⟨rfl, fun b1 w1 st => fin _ _ b1 w1 st (by rw [hres, if_pos (.inr (by simp at h4; omega))])⟩
    have hres2 : checkQ r9V oneV g (opsL len k s b n) = firstE oneV (opsL len k s b n) := by
      rw [hres, if_neg (by simp at h3 h4; omega)]
    refine .leaf ⟨rfl, fun b5 w5 st => ?_⟩
    show Code.wp E2.P (postC 1 (seqR (postC 3 rkC))) _ b5 w5
    refine wp_seqP (by kernel_rfl) ?_
    refine wp_seqP (by kernel_rfl) ?_
    refine StL.piece sound2 thom2 1000 (V := vsel ⟨[1, 2, 6], [0, 1]⟩ ⟨[2], []⟩ ⟨[], []⟩) (T := .leaf ⟨.normal, [.ptr 1 (.c 0), .int .i64 true 0, .int .i64 true 0], rkO g len k s b n⟩)
      (by decide) (vok _ _ _ (by decide) (by decide) (by decide)) (by kernel_rfl) (fun j => by kernel_rfl) st ?_
    refine Holds.leaf ⟨rfl, fun b6 w6 st => ?_⟩
    show Code.wp E2.P (seqR (seqL (postC 1 (seqR (postC 3 rkC))))) _ b6 w6
    refine wp_blockP (by kernel_rfl) ?_
    refine wp_loopP (by kernel_rfl) (fun m x w' => ∃ i : Nat, m = len - i ∧ i ≤ len ∧ firstE oneV (opsL len k s b n) = firstE oneV ((opsL len k s b n).drop i) ∧
      StL ρ0 w 54 ([1, 2, 6].zip [.ptr 1 (.c 0), .int .i64 true 0, .int .i64 false i]) (rkO g len k s b n) x w') ?_ ⟨0, rfl, Nat.zero_le _, by simp, st.conv rfl rfl⟩
    clear hge hacc hi
    rintro _ b7 w7 ⟨i, rfl, hi, hacc, st⟩
    refine StL.piece sound2 thom2 1000 (V := vsel ⟨[1, 2, 6], [0, 1]⟩ ⟨[2], []⟩ ⟨[1, 2], [0, 1]⟩) (T := .node (decide ((i : Int) < (len : Int))) (.node (decide ((0 : Int) ≤ (i : Int)) && (i : Int).toNat.blt len) (.node (i.blt len)
        (.node (oneV ⟨k i, s i, b i, n i⟩ != 0) (.leaf ⟨.ret, [.int .i64 false (oneV ⟨k i, s i, b i, n i⟩)], []⟩)
          (.leaf ⟨.normal, [.ptr 1 (.c 0), .int .i64 true 0, .int .i64 false (IntKind.i64.wrap ((i : Int) + 1))], rkO g len k s b n⟩)) .fail) .fail)
        (.leaf ⟨.exit 2, [.ptr 1 (.c 0), .int .i64 true 0], rkO g len k s b n⟩))
      (by decide) (vok _ _ _ (by decide) (by decide) (by decide)) (by kernel_rfl) (fun j => by kernel_rfl) st ?_
    refine Holds.node (fun h5 => ?_) fun h5 => ?_
    · have hlt : i < len := by simpa using h5
      have hblt : i.blt len = true := blt_true hlt
      refine Holds.node (fun _ => Holds.node (fun _ => Holds.node (fun h6 => ?_) fun h6 => ?_) fun hf => absurd hf (by rw [hblt]; decide)) fun hf => absurd hf (by simp [hblt])
      · refine .leaf ⟨rfl, fun b8 w8 st => fin _ _ b8 w8 st ?_⟩
        rw [hres2, hacc, opsL_drop hlt, firstE, if_neg (by simpa using h6)]
      · refine .leaf ⟨rfl, fun b8 w8 st => ⟨len - (i + 1), by omega, i + 1, rfl, hlt, ?_, st.conv ?_ rfl⟩⟩
        · rw [hacc, opsL_drop hlt, firstE, if_pos (by simpa using h6)]
        · simp only [dens, SV.den, wrap_succ hlt hlen]
    · have hge : i = len := by simp at h5; omega
      refine .leaf ⟨rfl, fun b8 w8 st => ?_⟩
      have hz : checkQ r9V oneV g (opsL len k s b n) = 0 := by
        rw [hres2, hacc, hge, List.drop_eq_nil_of_le (by rw [opsL_length]; exact Nat.le_refl _)]
        rfl
      show Code.wp E2.P (seqR (postC 1 (seqR (postC 3 rkC)))) _ b8 w8
      refine StL.piece sound2 thom2 1000 (V := vsel ⟨[], []⟩ ⟨[2], []⟩ ⟨[], []⟩) (T := .leaf ⟨.ret, [.int .i64 true 0], []⟩)
        (by decide) (vok _ _ _ (by decide) (by decide) (by decide)) (by kernel_rfl) (fun j => by kernel_rfl) st ?_
      exact Holds.leaf ⟨rfl, fun b9 w9 st => fin _ _ b9 w9 st hz.symm⟩
theorem rcheck_nil (g : SetD) (w : World) : Calls Tryz.prog 8 (dens [scrS g nilO]).toArray w fun e w' => e = .returned (.int .i64 (checkQ r9V oneV g [])) ∧ Below w.heap.size w w' := by
  have tree : endT (evalCallS E2 S2 1000 8 [scrS g nilO] SH.empty) = .node (r9V g != 0) (.leaf (.returned (.int .i64 false (r9V g)))) (.leaf (.returned (.int .i64 true 0))) := by kernel_rfl
  refine scal_of_tree sound2 thom2 1000 tree rfl rfl ?_ w
  refine Holds.node (fun h => .leaf ?_) fun h => .leaf ?_
  · unfold checkQ
    rw [if_neg (by simpa using h)]
    rfl
  · unfold checkQ
    rw [if_pos (by simpa using h)]
    rfl
theorem tab_rcheck : TabOK Tryz.prog 8 (scrA fun g ops => .int .i64 (checkQ r9V oneV g ops)) :=
  scr_tab (fun _ _ => rfl) rcheck_nil fun g len k s b n _ _ _ hl hro wr ra => rcheck_arr g len k s b n hl hro wr ra
end Go.Ev
end
section
set_option maxRecDepth 100000
namespace Go.Ev
open Go.Proofs Go.RowKit
/-! bagatellelaw10.long -/
noncomputable def lgC : Code := match Tryz.prog.funcs[4]? with | some fn => fn.body.getD .skip | none => .skip
noncomputable def lgF : Func := match Tryz.prog.funcs[4]? with | some fn => fn | none => default
theorem lgF_some : Tryz.prog.funcs[4]? = some lgF := by kernel_rfl
theorem lgC_some : lgF.body = some lgC := by kernel_rfl
theorem lgF_n : lgF.ntmps = 41 := by kernel_rfl
theorem lgC_plans : plansIn lgC = true := by kernel_rfl
noncomputable abbrev lgO (g : SetD) (len : Nat) (k s : Nat → Int) (b : Nat → ByteArray) (n : Nat → Int) : List SObj := [opsO len k s b n, .cells (g.sv ++ [.sl 0 (.c 0) ⟨false, len⟩ 4]) true]
theorem long_arr (g : SetD) (len : Nat) (k s : Nat → Int) (b : Nat → ByteArray) (n : Nat → Int) {ρ0 : Emb} {w : World} {args' : Array Value} (hlen : len ≤ 70368744177664) (hro : ∀ i g, ρ0 i = .img g → g.rw = false)
    (wr : WRel ρ0 (mkH [opsO len k s b n]).den w) (ra : VsRel ρ0 (dens [scrS g (slO len)]) args'.toList) :
    Calls E2.P 4 args' w fun e w' => e = .returned (.bool (longQ (opsL len k s b n))) ∧ Below w.heap.size w w' := by
  refine calls_StL lgF_some lgC_some lgF_n (by decide) (by simp) wr ra fun bb st => ?_
  have fin : ∀ (v l : Bool) b1 w1, StL ρ0 w 41 [(2, .bool l v)] [] b1 w1 → v = longQ (opsL len k s b n) → Leaves E2.P lgF b1.tmps (fun e w' => e = .returned (.bool (longQ (opsL len k s b n))) ∧ Below w.heap.size w w') b1.defers .returning w1 := by
    intro v l b1 w1 st hv
    refine StL.finish (vs := [.bool l v]) (fun j => by kernel_rfl) st fun ρ v' rv _ fr => ?_
    have := plainR_eq (v := .bool v) rfl rv
    exact ⟨by rw [this, hv], below_of_ro hro fr⟩
  refine StL.pre sound2 thom2 1000 1 (V := vsel ⟨[1, 2, 3], [0, 2]⟩ ⟨[2], []⟩ ⟨[], []⟩) (T := .leaf ⟨.normal, [.ptr 1 (.c 0), .bool true false, .int .i64 true 0], lgO g len k s b n⟩)
    (by decide) (vok _ _ _ (by decide) (by decide) (by decide)) lgC_plans (by kernel_rfl) (fun j => by kernel_rfl) st ?_
  refine Holds.leaf ⟨rfl, fun b1 w1 st => ?_⟩
  show (postC 2 lgC).wp E2.P (bodyPostD E2.P lgF _) b1 w1
  refine wp_seqP (by kernel_rfl) ?_
  refine wp_seqP (by kernel_rfl) ?_
  refine StL.piece sound2 thom2 1000 (V := vsel ⟨[1, 2, 3, 4], [0, 1]⟩ ⟨[2], []⟩ ⟨[], []⟩) (T := .leaf ⟨.normal, [.ptr 1 (.c 0), .bool true false, .int .i64 true 0, .int .i64 true 0], lgO g len k s b n⟩)
    (by decide) (vok _ _ _ (by decide) (by decide) (by decide)) (by kernel_rfl) (fun j => by kernel_rfl) st ?_
  refine Holds.leaf ⟨rfl, fun b2 w2 st => ?_⟩
  show Code.wp E2.P (seqR (seqL (postC 2 lgC))) _ b2 w2
  refine wp_blockP (by kernel_rfl) ?_
  refine wp_loopP (by kernel_rfl) (fun m x w' => ∃ (i : Nat) (acc : Int), m = len - i ∧ i ≤ len ∧ sumW 0 (opsL len k s b n) = sumW acc ((opsL len k s b n).drop i) ∧
    StL ρ0 w 41 ([1, 2, 3, 4].zip [.ptr 1 (.c 0), .bool true false, .int .i64 false acc, .int .i64 false i]) (lgO g len k s b n) x w') ?_ ⟨0, 0, rfl, Nat.zero_le _, by simp, st.conv rfl rfl⟩
  rintro _ b3 w3 ⟨i, acc, rfl, hi, hacc, st⟩
  refine StL.piece sound2 thom2 1000 (V := vsel ⟨[1, 2, 3, 4], [0, 1]⟩ ⟨[2], []⟩ ⟨[1, 2, 3], [0, 1]⟩) (T := .node (decide ((i : Int) < (len : Int))) (.node (decide ((0 : Int) ≤ (i : Int)) && (i : Int).toNat.blt len) (.node (i.blt len)
        (.leaf ⟨.normal, [.ptr 1 (.c 0), .bool true false, .int .i64 false (IntKind.i64.wrap (acc + ((b i).size : Int))), .int .i64 false (IntKind.i64.wrap ((i : Int) + 1))], lgO g len k s b n⟩) .fail) .fail)
      (.leaf ⟨.exit 0, [.ptr 1 (.c 0), .bool true false, .int .i64 false acc], lgO g len k s b n⟩))
    (by decide) (vok _ _ _ (by decide) (by decide) (by decide)) (by kernel_rfl) (fun j => by kernel_rfl) st ?_
  refine Holds.node (fun h2 => ?_) fun h2 => ?_
  · have hlt : i < len := by simpa using h2
    have hblt : i.blt len = true := blt_true hlt
    refine Holds.node (fun _ => Holds.node (fun _ => ?_) fun hf => absurd hf (by rw [hblt]; decide)) fun hf => absurd hf (by simp [hblt])
    refine .leaf ⟨rfl, fun b4 w4 st => ?_⟩
    refine ⟨len - (i + 1), by omega, i + 1, IntKind.i64.wrap (acc + ((b i).size : Int)), rfl, hlt, ?_, st.conv ?_ rfl⟩
    · rw [hacc, opsL_drop hlt, sumW]
    · simp only [dens, SV.den, wrap_succ hlt hlen]
  · have hge : i = len := by simp at h2; omega
    refine .leaf ⟨rfl, fun b4 w4 st => ?_⟩
    have hsum : sumW 0 (opsL len k s b n) = acc := by
      rw [hacc, hge, List.drop_eq_nil_of_le (by rw [opsL_length]; exact Nat.le_refl _)]
      rfl
    have hq : longQ (opsL len k s b n) = decide ((60 < len ∨ 3000 < acc) ∧ len ≤ 400 ∨ 450 < len) := by unfold longQ; rw [opsL_length, hsum]
    show Code.wp E2.P (seqR (postC 2 lgC)) _ b4 w4
    refine StL.piece sound2 thom2 1000 (V := vsel ⟨[], []⟩ ⟨[2], []⟩ ⟨[], []⟩) (T := .node (decide ((len : Int) > 60))
        (.node (decide ((len : Int) ≤ 400)) (.leaf ⟨.ret, [.bool true true], []⟩) (.leaf ⟨.ret, [.bool false (decide ((len : Int) > 450))], []⟩))
        (.node (decide (acc > 3000)) (.node (decide ((len : Int) ≤ 400)) (.leaf ⟨.ret, [.bool true true], []⟩) (.leaf ⟨.ret, [.bool false (decide ((len : Int) > 450))], []⟩))
          (.leaf ⟨.ret, [.bool false (decide ((len : Int) > 450))], []⟩)))
      (by decide) (vok _ _ _ (by decide) (by decide) (by decide)) (by kernel_rfl) (fun j => by kernel_rfl) st ?_
    refine Holds.node (fun h3 => Holds.node (fun h4 => ?_) fun h4 => ?_) fun h3 => Holds.node (fun h4 => Holds.node (fun h5 => ?_) fun h5 => ?_) fun h4 => ?_
    all_goals
      refine .leaf ⟨rfl, fun b9 w9 st => fin _ _ b9 w9 st ?_⟩
      rw [hq]
      simp only [decide_eq_true_eq, decide_eq_false_iff_not] at *
      first
        | (symm; rw [decide_eq_true_eq]; omega)
        | (rw [decide_eq_decide]; omega)
theorem long_nil (g : SetD) (w : World) : Calls Tryz.prog 4 (dens [scrS g nilO]).toArray w fun e w' => e = .returned (.bool (longQ [])) ∧ Below w.heap.size w w' := by
  have tree : endT (evalCallS E2 S2 1000 4 [scrS g nilO] SH.empty) = .leaf (.returned (.bool true false)) := by kernel_rfl
  exact scal_of_tree sound2 thom2 1000 tree rfl rfl (Holds.leaf rfl) w
theorem tab_long : TabOK Tryz.prog 4 (scrA fun _ ops => .bool (longQ ops)) :=
  scr_tab (fun _ _ => rfl) long_nil fun g len k s b n _ _ _ hl hro wr ra => long_arr g len k s b n hl hro wr ra
end Go.Ev
end
section
set_option maxRecDepth 100000
namespace Go.Ev
open Go.Proofs Go.RowKit
/-! history.same of ops -/
noncomputable def smC : Code := match Tryz.prog.funcs[18]? with | some fn => fn.body.getD .skip | none => .skip
noncomputable def smF : Func := match Tryz.prog.funcs[18]? with | some fn => fn | none => default
theorem smF_some : Tryz.prog.funcs[18]? = some smF := by kernel_rfl
theorem smC_some : smF.body = some smC := by kernel_rfl
theorem smF_n : smF.ntmps = 30 := by kernel_rfl
theorem smC_plans : plansIn smC = true := by kernel_rfl
noncomputable abbrev smO (len : Nat) (k s : Nat → Int) (b : Nat → ByteArray) (n : Nat → Int) (len' : Nat) (k' s' : Nat → Int) (b' : Nat → ByteArray) (n' : Nat → Int) : List SObj := [opsO len k s b n, opsO len' k' s' b' n']
theorem same_fin {ρ0 : Emb} {w : World} (hro : ∀ i g, ρ0 i = .img g → g.rw = false) {u : Bool} (v l : Bool) (b1 : Act) (w1 : World) (st : StL ρ0 w 30 [(6, .bool l v)] [] b1 w1) (hv : v = u) :
    Leaves E2.P smF b1.tmps (fun e w' => e = .returned (.bool u) ∧ Below w.heap.size w w') b1.defers .returning w1 := by
  refine StL.finish (vs := [.bool l v]) (fun j => by kernel_rfl) st fun ρ v' rv _ fr => ?_
  have := plainR_eq (v := .bool v) rfl rv
  exact ⟨by rw [this, hv], below_of_ro hro fr⟩
theorem same_00 (ρ : Emb) (w : World) (args' : Array Value) (hro : ∀ i g, ρ i = .img g → g.rw = false) (wr : WRel ρ (mkH []).den w) (ra : VsRel ρ (dens [nilO, nilO, .func 19 [] []]) (Array.toList args')) :
    Calls E2.P 18 args' w fun e w' => e = .returned (.bool (sameL [] [])) ∧ Below w.heap.size w w' := by
  refine calls_StL smF_some smC_some smF_n (by decide) (by simp) wr ra fun bb st => ?_
  refine StL.piece sound2 thom2 1000 (V := vsel ⟨[], []⟩ ⟨[6], []⟩ ⟨[], []⟩) (T := .leaf ⟨.ret, [.bool true true], []⟩)
    (by decide) (vok _ _ _ (by decide) (by decide) (by decide)) smC_plans (fun j => by kernel_rfl) st ?_
  exact Holds.leaf ⟨rfl, fun b1 w1 st => same_fin hro _ _ b1 w1 st rfl⟩
theorem same_01 (len : Nat) (k s : Nat → Int) (b : Nat → ByteArray) (n : Nat → Int) (ρ : Emb) (w : World) (args' : Array Value) (hro : ∀ i g, ρ i = .img g → g.rw = false) (wr : WRel ρ (mkH [opsO len k s b n]).den w) (ra : VsRel ρ (dens [nilO, slO len, .func 19 [] []]) (Array.toList args')) :
    Calls E2.P 18 args' w fun e w' => e = .returned (.bool (sameL [] (opsL len k s b n))) ∧ Below w.heap.size w w' := by
  refine calls_StL smF_some smC_some smF_n (by decide) (by simp) wr ra fun bb st => ?_
  refine StL.piece sound2 thom2 1000 (V := vsel ⟨[], []⟩ ⟨[6], []⟩ ⟨[], []⟩) (T := .node ((0 : Int) != (len : Int)) (.leaf ⟨.ret, [.bool true false], []⟩) (.leaf ⟨.ret, [.bool true true], []⟩))
    (by decide) (vok _ _ _ (by decide) (by decide) (by decide)) smC_plans (fun j => by kernel_rfl) st ?_
  refine Holds.node (fun h0 => .leaf ⟨rfl, fun b1 w1 st => same_fin hro _ _ b1 w1 st ?_⟩) fun h0 => .leaf ⟨rfl, fun b1 w1 st => same_fin hro _ _ b1 w1 st ?_⟩
  · rw [sameL_length]
    rw [opsL_length]
    simp at h0 ⊢
    omega
  · have : len = 0 := by simp at h0; omega
    subst this
    rfl
theorem same_10 (len : Nat) (k s : Nat → Int) (b : Nat → ByteArray) (n : Nat → Int) (ρ : Emb) (w : World) (args' : Array Value) (hro : ∀ i g, ρ i = .img g → g.rw = false) (wr : WRel ρ (mkH [opsO len k s b n]).den w) (ra : VsRel ρ (dens [slO len, nilO, .func 19 [] []]) (Array.toList args')) :
    Calls E2.P 18 args' w fun e w' => e = .returned (.bool (sameL (opsL len k s b n) [])) ∧ Below w.heap.size w w' := by
  refine calls_StL smF_some smC_some smF_n (by decide) (by simp) wr ra fun bb st => ?_
  refine StL.piece sound2 thom2 1000 (V := vsel ⟨[], []⟩ ⟨[6], []⟩ ⟨[], []⟩) (T := .node ((len : Int) != (0 : Int)) (.leaf ⟨.ret, [.bool true false], []⟩)
      (.node (decide ((0 : Int) < (len : Int))) (.node (decide ((0 : Int) ≤ (0 : Int)) && (0 : Int).toNat.blt len) (.node (Nat.blt 0 len) .fail .fail) .fail) (.leaf ⟨.ret, [.bool true true], []⟩)))
    (by decide) (vok _ _ _ (by decide) (by decide) (by decide)) smC_plans (fun j => by kernel_rfl) st ?_
  refine Holds.node (fun h0 => .leaf ⟨rfl, fun b1 w1 st => same_fin hro _ _ b1 w1 st ?_⟩) fun h0 => Holds.node (fun h1 => absurd h1 ?_) fun h1 => .leaf ⟨rfl, fun b1 w1 st => same_fin hro _ _ b1 w1 st ?_⟩
  · rw [sameL_length]
    rw [opsL_length]
    simp at h0 ⊢
    omega
  · have : len = 0 := by simp at h0; omega
    subst this
    decide
  · have : len = 0 := by simp at h0; omega
    subst this
    rfl
theorem same_11 (len : Nat) (k s : Nat → Int) (b : Nat → ByteArray) (n : Nat → Int) (len' : Nat) (k' s' : Nat → Int) (b' : Nat → ByteArray) (n' : Nat → Int) (ρ0 : Emb) (w : World) (args' : Array Value) (hlen : len ≤ 70368744177664) (hro : ∀ i g, ρ0 i = .img g → g.rw = false)
    (wr : WRel ρ0 (mkH [opsO len k s b n, opsO len' k' s' b' n']).den w) (ra : VsRel ρ0 (dens [slP 0 len, slP 1 len', .func 19 [] []]) (Array.toList args')) :
    Calls E2.P 18 args' w fun e w' => e = .returned (.bool (sameL (opsL len k s b n) (opsL len' k' s' b' n'))) ∧ Below w.heap.size w w' := by
  refine calls_StL smF_some smC_some smF_n (by decide) (by simp) wr ra fun bb st => ?_
  refine StL.pre sound2 thom2 1000 1 (V := vsel ⟨[0, 1, 2, 6], [0, 1]⟩ ⟨[6], []⟩ ⟨[], []⟩) (T := .node ((len : Int) != (len' : Int)) (.leaf ⟨.ret, [.bool true false], []⟩)
      (.leaf ⟨.normal, [slP 0 len, slP 1 len', .func 19 [] [], .bool true false], smO len k s b n len' k' s' b' n'⟩))
    (by decide) (vok _ _ _ (by decide) (by decide) (by decide)) smC_plans (by kernel_rfl) (fun j => by kernel_rfl) st ?_
  refine Holds.node (fun h0 => ?_) fun h0 => ?_
  · refine .leaf ⟨rfl, fun b1 w1 st => same_fin hro _ _ b1 w1 st ?_⟩
    rw [sameL_length]
    rw [opsL_length, opsL_length]
    simp at h0
    omega
  have heq : len' = len := by simp at h0; omega
  subst heq
  refine .leaf ⟨rfl, fun b1 w1 st => ?_⟩
  show (postC 2 smC).wp E2.P (bodyPostD E2.P smF _) b1 w1
  refine wp_seqP (by kernel_rfl) ?_
  refine wp_seqP (by kernel_rfl) ?_
  refine StL.piece sound2 thom2 1000 (V := vsel ⟨[0, 1, 2, 6, 14, 15], [0, 1]⟩ ⟨[6], []⟩ ⟨[], []⟩) (T := .leaf ⟨.normal, [slP 0 len', slP 1 len', .func 19 [] [], .bool true false, .int .i64 false len', .int .i64 true 0], smO len' k s b n len' k' s' b' n'⟩)
    (by decide) (vok _ _ _ (by decide) (by decide) (by decide)) (by kernel_rfl) (fun j => by kernel_rfl) st ?_
  refine Holds.leaf ⟨rfl, fun b2 w2 st => ?_⟩
  show Code.wp E2.P (seqR (seqL (postC 2 smC))) _ b2 w2
  refine wp_blockP (by kernel_rfl) ?_
  refine wp_loopP (by kernel_rfl) (fun m x w' => ∃ (i : Nat), m = len' - i ∧ i ≤ len' ∧ sameL (opsL len' k s b n) (opsL len' k' s' b' n') = sameL ((opsL len' k s b n).drop i) ((opsL len' k' s' b' n').drop i) ∧
    StL ρ0 w 30 ([0, 1, 2, 6, 14, 15].zip [slP 0 len', slP 1 len', .func 19 [] [], .bool true false, .int .i64 false len', .int .i64 false i]) (smO len' k s b n len' k' s' b' n') x w') ?_ ⟨0, rfl, Nat.zero_le _, by simp, st.conv rfl rfl⟩
  rintro _ b3 w3 ⟨i, rfl, hi, hacc, st⟩
  refine StL.piece sound2 thom2 1000 (V := vsel ⟨[0, 1, 2, 6, 14, 15], [0, 1]⟩ ⟨[6], []⟩ ⟨[], []⟩) (T := .node (decide ((i : Int) < (len' : Int))) (.node (decide ((0 : Int) ≤ (i : Int)) && (i : Int).toNat.blt len') (.node (i.blt len') (.node (decide ((0 : Int) ≤ (i : Int)) && (i : Int).toNat.blt len') (.node (i.blt len')
        (.node (!(k i == k' i && (s i == s' i && (b i == b' i && (n i == n' i && true))))) (.leaf ⟨.ret, [.bool true false], []⟩)
          (.leaf ⟨.normal, [slP 0 len', slP 1 len', .func 19 [] [], .bool true false, .int .i64 false len', .int .i64 false (IntKind.i64.wrap ((i : Int) + 1))], smO len' k s b n len' k' s' b' n'⟩)) .fail) .fail) .fail) .fail)
      (.leaf ⟨.exit 0, [], []⟩))
    (by decide) (vok _ _ _ (by decide) (by decide) (by decide)) (by kernel_rfl) (fun j => by kernel_rfl) st ?_
  refine Holds.node (fun h2 => ?_) fun h2 => ?_
  · have hlt : i < len' := by simpa using h2
    have hblt : i.blt len' = true := blt_true hlt
    refine Holds.node (fun _ => Holds.node (fun _ => Holds.node (fun _ => Holds.node (fun _ => Holds.node (fun h3 => ?_) fun h3 => ?_) fun hf => absurd hf (by rw [hblt]; decide)) fun hf => absurd hf (by simp [hblt])) fun hf => absurd hf (by rw [hblt]; decide)) fun hf => absurd hf (by simp [hblt])
    · refine .leaf ⟨rfl, fun b4 w4 st => same_fin hro _ _ b4 w4 st ?_⟩
      rw [hacc, opsL_drop hlt, opsL_drop hlt, sameL]
      have : eqOp ⟨k i, s i, b i, n i⟩ ⟨k' i, s' i, b' i, n' i⟩ = false := by
        rw [Bool.not_eq_true'] at h3
        exact h3
      rw [this, Bool.false_and]
    · refine .leaf ⟨rfl, fun b4 w4 st => ?_⟩
      refine ⟨len' - (i + 1), by omega, i + 1, rfl, hlt, ?_, st.conv ?_ rfl⟩
      · rw [hacc, opsL_drop hlt, opsL_drop hlt, sameL]
        have : eqOp ⟨k i, s i, b i, n i⟩ ⟨k' i, s' i, b' i, n' i⟩ = true := by
          rw [Bool.not_eq_false'] at h3
          exact h3
        rw [this, Bool.true_and]
      · simp only [dens, SV.den, wrap_succ hlt hlen]
  · have hge : i = len' := by simp at h2; omega
    refine .leaf ⟨rfl, fun b4 w4 st => ?_⟩
    show Code.wp E2.P (seqR (postC 2 smC)) _ b4 w4
    refine StL.piece sound2 thom2 1000 (V := vsel ⟨[], []⟩ ⟨[6], []⟩ ⟨[], []⟩) (T := .leaf ⟨.ret, [.bool true true], []⟩)
      (by decide) (vok _ _ _ (by decide) (by decide) (by decide)) (by kernel_rfl) (fun j => by kernel_rfl) st ?_
    refine Holds.leaf ⟨rfl, fun b9 w9 st => same_fin hro _ _ b9 w9 st ?_⟩
    rw [hacc, hge, List.drop_eq_nil_of_le (by rw [opsL_length]; exact Nat.le_refl _), List.drop_eq_nil_of_le (by rw [opsL_length]; exact Nat.le_refl _)]
    rfl
theorem tab_same : TabOK Tryz.prog 18 (sl2A 19 fun ops ops2 => .bool (sameL ops ops2)) :=
  sl2_tab (fun _ _ => rfl) same_00 (fun len k s b n ρ w args' _ => same_01 len k s b n ρ w args') (fun len k s b n ρ w args' _ => same_10 len k s b n ρ w args') (fun len k s b n len' k' s' b' n' ρ w args' hl _ => same_11 len k s b n len' k' s' b' n' ρ w args' hl)
end Go.Ev
end
section
set_option maxRecDepth 100000
namespace Go.Ev
open Go.Proofs Go.RowKit
/-! history.SameScript -/
noncomputable def E3 : Env := E2.add (one 18 (sl2A 19 fun ops ops2 => .bool (sameL ops ops2)))
noncomputable def S3 : STab := addS (oneSym 18 (sl2Sym 19 fun ops ops2 => .bool false (sameL ops ops2))) S2
theorem sound3 : Sound E3 := sound2.add tab_same
theorem thom3 : TabHom E3 S3 := thom2.add (sl2_hom fun _ _ => rfl)
noncomputable def hsC : Code := match Tryz.prog.funcs[9]? with | some fn => fn.body.getD .skip | none => .skip
noncomputable def hsF : Func := match Tryz.prog.funcs[9]? with | some fn => fn | none => default
theorem hsF_some : Tryz.prog.funcs[9]? = some hsF := by kernel_rfl
theorem hsC_some : hsF.body = some hsC := by kernel_rfl
theorem hsF_n : hsF.ntmps = 17 := by kernel_rfl
theorem hsC_plans : plansIn hsC = true := by kernel_rfl
theorem hs_fin {ρ0 : Emb} {w : World} (hro : ∀ i g, ρ0 i = .img g → g.rw = false) {u : Bool} (v l : Bool) (b1 : Act) (w1 : World) (st : StL ρ0 w 17 [(4, .bool l v)] [] b1 w1) (hv : v = u) :
    Leaves E3.P hsF b1.tmps (fun e w' => e = .returned (.bool u) ∧ Below w.heap.size w w') b1.defers .returning w1 := by
  refine StL.finish (vs := [.bool l v]) (fun j => by kernel_rfl) st fun ρ v' rv _ fr => ?_
  have := plainR_eq (v := .bool v) rfl rv
  exact ⟨by rw [this, hv], below_of_ro hro fr⟩
theorem hs_00 (g g' : SetD)  (ρ0 : Emb) (w : World) (args' : Array Value)  (hro : ∀ i g, ρ0 i = .img g → g.rw = false) (wr : WRel ρ0 (mkH []).den w) (ra : VsRel ρ0 (dens [scrS g nilO, scrS g' nilO]) (Array.toList args')) :
    Calls E3.P 9 args' w fun e w' => e = .returned (.bool (sameS g [] g' [])) ∧ Below w.heap.size w w' := by
  refine calls_StL hsF_some hsC_some hsF_n (by decide) (by simp) wr ra fun bb st => ?_
  refine StL.piece sound3 thom3 1000 (V := vsel ⟨[], []⟩ ⟨[4], []⟩ ⟨[], []⟩) (T := .node (g.gx == g'.gx && (g.gxf == g'.gxf && (g.gy == g'.gy && (g.gyf == g'.gyf && (g.dt == g'.dt && (g.dtf == g'.dtf && (g.most == g'.most && (g.rounds == g'.rounds && (g.sess == g'.sess && (g.staged == g'.staged && (g.queue == g'.queue && true))))))))))) (.leaf ⟨.ret, [.bool false (sameL [] [])], []⟩) (.leaf ⟨.ret, [.bool true false], []⟩))
    (by decide) (vok _ _ _ (by decide) (by decide) (by decide)) hsC_plans (fun j => by kernel_rfl) st ?_
  refine Holds.node (fun h0 => ?_) fun h0 => Holds.leaf ⟨rfl, fun b1 w1 st => hs_fin hro _ _ b1 w1 st ?_⟩
  · refine Holds.leaf ⟨rfl, fun b1 w1 st => hs_fin hro _ _ b1 w1 st ?_⟩
    rw [sameS, show eqSet g g' = true from h0, Bool.true_and]
  · rw [sameS, show eqSet g g' = false from h0, Bool.false_and]
theorem hs_01 (g g' : SetD) (len : Nat) (k s : Nat → Int) (b : Nat → ByteArray) (n : Nat → Int) (ρ0 : Emb) (w : World) (args' : Array Value) (hlen : len ≤ 70368744177664) (hro : ∀ i g, ρ0 i = .img g → g.rw = false) (wr : WRel ρ0 (mkH [opsO len k s b n]).den w) (ra : VsRel ρ0 (dens [scrS g nilO, scrS g' (slO len)]) (Array.toList args')) :
    Calls E3.P 9 args' w fun e w' => e = .returned (.bool (sameS g [] g' (opsL len k s b n))) ∧ Below w.heap.size w w' := by
  refine calls_StL hsF_some hsC_some hsF_n (by decide) (by simp) wr ra fun bb st => ?_
  refine StL.piece sound3 thom3 1000 (V := vsel ⟨[], []⟩ ⟨[4], []⟩ ⟨[], []⟩) (T := .node (g.gx == g'.gx && (g.gxf == g'.gxf && (g.gy == g'.gy && (g.gyf == g'.gyf && (g.dt == g'.dt && (g.dtf == g'.dtf && (g.most == g'.most && (g.rounds == g'.rounds && (g.sess == g'.sess && (g.staged == g'.staged && (g.queue == g'.queue && true))))))))))) (.node (Nat.ble (Nat.div 0 4 + len) len) (.node (Nat.ble len 70368744177664) (.leaf ⟨.ret, [.bool false (sameL [] (opsL len k s b n))], []⟩) .fail) .fail) (.leaf ⟨.ret, [.bool true false], []⟩))
    (by decide) (vok _ _ _ (by decide) (by decide) (by decide)) hsC_plans (fun j => by kernel_rfl) st ?_
  refine Holds.node (fun h0 => ?_) fun h0 => Holds.leaf ⟨rfl, fun b1 w1 st => hs_fin hro _ _ b1 w1 st ?_⟩
  · refine Holds.node (fun _ => Holds.node (fun _ => ?_) fun hf => absurd hf (by rw [Nat.ble_eq_true_of_le hlen]; decide)) fun hf => absurd hf (by rw [Nat.ble_eq_true_of_le (show 0 + len ≤ len by omega)]; decide)
    refine Holds.leaf ⟨rfl, fun b1 w1 st => hs_fin hro _ _ b1 w1 st ?_⟩
    rw [sameS, show eqSet g g' = true from h0, Bool.true_and]
  · rw [sameS, show eqSet g g' = false from h0, Bool.false_and]
theorem hs_10 (g g' : SetD) (len : Nat) (k s : Nat → Int) (b : Nat → ByteArray) (n : Nat → Int) (ρ0 : Emb) (w : World) (args' : Array Value) (hlen : len ≤ 70368744177664) (hro : ∀ i g, ρ0 i = .img g → g.rw = false) (wr : WRel ρ0 (mkH [opsO len k s b n]).den w) (ra : VsRel ρ0 (dens [scrS g (slO len), scrS g' nilO]) (Array.toList args')) :
    Calls E3.P 9 args' w fun e w' => e = .returned (.bool (sameS g (opsL len k s b n) g' [])) ∧ Below w.heap.size w w' := by
  refine calls_StL hsF_some hsC_some hsF_n (by decide) (by simp) wr ra fun bb st => ?_
  refine StL.piece sound3 thom3 1000 (V := vsel ⟨[], []⟩ ⟨[4], []⟩ ⟨[], []⟩) (T := .node (g.gx == g'.gx && (g.gxf == g'.gxf && (g.gy == g'.gy && (g.gyf == g'.gyf && (g.dt == g'.dt && (g.dtf == g'.dtf && (g.most == g'.most && (g.rounds == g'.rounds && (g.sess == g'.sess && (g.staged == g'.staged && (g.queue == g'.queue && true))))))))))) (.node (Nat.ble (Nat.div 0 4 + len) len) (.node (Nat.ble len 70368744177664) (.leaf ⟨.ret, [.bool false (sameL (opsL len k s b n) [])], []⟩) .fail) .fail) (.leaf ⟨.ret, [.bool true false], []⟩))
    (by decide) (vok _ _ _ (by decide) (by decide) (by decide)) hsC_plans (fun j => by kernel_rfl) st ?_
  refine Holds.node (fun h0 => ?_) fun h0 => Holds.leaf ⟨rfl, fun b1 w1 st => hs_fin hro _ _ b1 w1 st ?_⟩
  · refine Holds.node (fun _ => Holds.node (fun _ => ?_) fun hf => absurd hf (by rw [Nat.ble_eq_true_of_le hlen]; decide)) fun hf => absurd hf (by rw [Nat.ble_eq_true_of_le (show 0 + len ≤ len by omega)]; decide)
    refine Holds.leaf ⟨rfl, fun b1 w1 st => hs_fin hro _ _ b1 w1 st ?_⟩
    rw [sameS, show eqSet g g' = true from h0, Bool.true_and]
  · rw [sameS, show eqSet g g' = false from h0, Bool.false_and]
theorem hs_11 (g g' : SetD) (len : Nat) (k s : Nat → Int) (b : Nat → ByteArray) (n : Nat → Int) (len' : Nat) (k' s' : Nat → Int) (b' : Nat → ByteArray) (n' : Nat → Int) (ρ0 : Emb) (w : World) (args' : Array Value) (hlen : len ≤ 70368744177664) (hlen' : len' ≤ 70368744177664) (hro : ∀ i g, ρ0 i = .img g → g.rw = false) (wr : WRel ρ0 (mkH [opsO len k s b n, opsO len' k' s' b' n']).den w) (ra : VsRel ρ0 (dens [scrS g (slP 0 len), scrS g' (slP 1 len')]) (Array.toList args')) :
    Calls E3.P 9 args' w fun e w' => e = .returned (.bool (sameS g (opsL len k s b n) g' (opsL len' k' s' b' n'))) ∧ Below w.heap.size w w' := by
  refine calls_StL hsF_some hsC_some hsF_n (by decide) (by simp) wr ra fun bb st => ?_
  refine StL.piece sound3 thom3 1000 (V := vsel ⟨[], []⟩ ⟨[4], []⟩ ⟨[], []⟩) (T := .node (g.gx == g'.gx && (g.gxf == g'.gxf && (g.gy == g'.gy && (g.gyf == g'.gyf && (g.dt == g'.dt && (g.dtf == g'.dtf && (g.most == g'.most && (g.rounds == g'.rounds && (g.sess == g'.sess && (g.staged == g'.staged && (g.queue == g'.queue && true))))))))))) (.node (Nat.ble (Nat.div 0 4 + len) len) (.node (Nat.ble len 70368744177664) (.node (Nat.ble (Nat.div 0 4 + len') len') (.node (Nat.ble len' 70368744177664) (.leaf ⟨.ret, [.bool false (sameL (opsL len k s b n) (opsL len' k' s' b' n'))], []⟩) .fail) .fail) .fail) .fail) (.leaf ⟨.ret, [.bool true false], []⟩))
    (by decide) (vok _ _ _ (by decide) (by decide) (by decide)) hsC_plans (fun j => by kernel_rfl) st ?_
  refine Holds.node (fun h0 => ?_) fun h0 => Holds.leaf ⟨rfl, fun b1 w1 st => hs_fin hro _ _ b1 w1 st ?_⟩
  · refine Holds.node (fun _ => Holds.node (fun _ => ?_) fun hf => absurd hf (by rw [Nat.ble_eq_true_of_le hlen]; decide)) fun hf => absurd hf (by rw [Nat.ble_eq_true_of_le (show 0 + len ≤ len by omega)]; decide)
    refine Holds.node (fun _ => Holds.node (fun _ => ?_) fun hf => absurd hf (by rw [Nat.ble_eq_true_of_le hlen']; decide)) fun hf => absurd hf (by rw [Nat.ble_eq_true_of_le (show 0 + len' ≤ len' by omega)]; decide)
    refine Holds.leaf ⟨rfl, fun b1 w1 st => hs_fin hro _ _ b1 w1 st ?_⟩
    rw [sameS, show eqSet g g' = true from h0, Bool.true_and]
  · rw [sameS, show eqSet g g' = false from h0, Bool.false_and]
theorem tab_hs : TabOK Tryz.prog 9 (scr2A fun g ops g2 ops2 => .bool (sameS g ops g2 ops2)) :=
  scr2_tab (fun _ _ _ _ => rfl) (fun g g2 ρ w args' => hs_00 g g2 ρ w args') (fun g g2 len k s b n ρ w args' => hs_01 g g2 len k s b n ρ w args') (fun g g2 len k s b n ρ w args' => hs_10 g g2 len k s b n ρ w args') fun g g2 len k s b n len' k' s' b' n' ρ w args' => hs_11 g g2 len k s b n len' k' s' b' n' ρ w args'
/-! ref10.SameScript -/
noncomputable def rsC : Code := match Tryz.prog.funcs[10]? with | some fn => fn.body.getD .skip | none => .skip
noncomputable def rsF : Func := match Tryz.prog.funcs[10]? with | some fn => fn | none => default
theorem rsF_some : Tryz.prog.funcs[10]? = some rsF := by kernel_rfl
theorem rsC_some : rsF.body = some rsC := by kernel_rfl
theorem rsF_n : rsF.ntmps = 38 := by kernel_rfl
theorem rsC_plans : plansIn rsC = true := by kernel_rfl
theorem rs_fin {ρ0 : Emb} {w : World} (hro : ∀ i g, ρ0 i = .img g → g.rw = false) {u : Bool} (v l : Bool) (b1 : Act) (w1 : World) (st : StL ρ0 w 38 [(4, .bool l v)] [] b1 w1) (hv : v = u) :
    Leaves E2.P rsF b1.tmps (fun e w' => e = .returned (.bool u) ∧ Below w.heap.size w w') b1.defers .returning w1 := by
  refine StL.finish (vs := [.bool l v]) (fun j => by kernel_rfl) st fun ρ v' rv _ fr => ?_
  have := plainR_eq (v := .bool v) rfl rv
  exact ⟨by rw [this, hv], below_of_ro hro fr⟩
noncomputable abbrev rsO (g : SetD) (len : Nat) (k s : Nat → Int) (b : Nat → ByteArray) (n : Nat → Int) (g' : SetD) (len' : Nat) (k' s' : Nat → Int) (b' : Nat → ByteArray) (n' : Nat → Int) : List SObj := [opsO len k s b n, opsO len' k' s' b' n', .cells (g.sv ++ [slP 0 len]) true, .cells (g'.sv ++ [slP 1 len']) true]
theorem rs_00 (g g' : SetD)  (ρ0 : Emb) (w : World) (args' : Array Value)  (hro : ∀ i g, ρ0 i = .img g → g.rw = false) (wr : WRel ρ0 (mkH []).den w) (ra : VsRel ρ0 (dens [scrS g nilO, scrS g' nilO]) (Array.toList args')) :
    Calls E2.P 10 args' w fun e w' => e = .returned (.bool (sameS g [] g' [])) ∧ Below w.heap.size w w' := by
  refine calls_StL rsF_some rsC_some rsF_n (by decide) (by simp) wr ra fun bb st => ?_
  refine StL.piece sound2 thom2 1000 (V := vsel ⟨[], []⟩ ⟨[4], []⟩ ⟨[], []⟩) (T := .node (!(g.gx == g'.gx && (g.gxf == g'.gxf && (g.gy == g'.gy && (g.gyf == g'.gyf && (g.dt == g'.dt && (g.dtf == g'.dtf && (g.most == g'.most && (g.rounds == g'.rounds && (g.sess == g'.sess && (g.staged == g'.staged && (g.queue == g'.queue && true)))))))))))) (.leaf ⟨.ret, [.bool true false], []⟩) (.leaf ⟨.ret, [.bool true true], []⟩))
    (by decide) (vok _ _ _ (by decide) (by decide) (by decide)) rsC_plans (fun j => by kernel_rfl) st ?_
  refine Holds.node (fun h0 => Holds.leaf ⟨rfl, fun b1 w1 st => rs_fin hro _ _ b1 w1 st (by rw [sameS, show eqSet g g' = false from by rw [Bool.not_eq_true'] at h0; exact h0, Bool.false_and])⟩) fun h0 => ?_
  have hE : eqSet g g' = true := by rw [Bool.not_eq_false'] at h0; exact h0
  rw [sameS, hE, Bool.true_and]
  exact Holds.leaf ⟨rfl, fun b1 w1 st => rs_fin hro _ _ b1 w1 st rfl⟩
theorem rs_01 (g g' : SetD) (len : Nat) (k s : Nat → Int) (b : Nat → ByteArray) (n : Nat → Int) (ρ0 : Emb) (w : World) (args' : Array Value) (hlen : len ≤ 70368744177664) (hro : ∀ i g, ρ0 i = .img g → g.rw = false) (wr : WRel ρ0 (mkH [opsO len k s b n]).den w) (ra : VsRel ρ0 (dens [scrS g nilO, scrS g' (slO len)]) (Array.toList args')) :
    Calls E2.P 10 args' w fun e w' => e = .returned (.bool (sameS g [] g' (opsL len k s b n))) ∧ Below w.heap.size w w' := by
  refine calls_StL rsF_some rsC_some rsF_n (by decide) (by simp) wr ra fun bb st => ?_
  refine StL.piece sound2 thom2 1000 (V := vsel ⟨[], []⟩ ⟨[4], []⟩ ⟨[], []⟩) (T := .node (!(g.gx == g'.gx && (g.gxf == g'.gxf && (g.gy == g'.gy && (g.gyf == g'.gyf && (g.dt == g'.dt && (g.dtf == g'.dtf && (g.most == g'.most && (g.rounds == g'.rounds && (g.sess == g'.sess && (g.staged == g'.staged && (g.queue == g'.queue && true)))))))))))) (.leaf ⟨.ret, [.bool true false], []⟩) (.node ((0 : Int) != (len : Int)) (.leaf ⟨.ret, [.bool true false], []⟩) (.leaf ⟨.ret, [.bool true true], []⟩)))
    (by decide) (vok _ _ _ (by decide) (by decide) (by decide)) rsC_plans (fun j => by kernel_rfl) st ?_
  refine Holds.node (fun h0 => Holds.leaf ⟨rfl, fun b1 w1 st => rs_fin hro _ _ b1 w1 st (by rw [sameS, show eqSet g g' = false from by rw [Bool.not_eq_true'] at h0; exact h0, Bool.false_and])⟩) fun h0 => ?_
  have hE : eqSet g g' = true := by rw [Bool.not_eq_false'] at h0; exact h0
  rw [sameS, hE, Bool.true_and]
  refine Holds.node (fun h1 => Holds.leaf ⟨rfl, fun b1 w1 st => rs_fin hro _ _ b1 w1 st ?_⟩) fun h1 => Holds.leaf ⟨rfl, fun b1 w1 st => rs_fin hro _ _ b1 w1 st ?_⟩
  · rw [sameL_length]
    rw [opsL_length]
    simp at h1 ⊢
    omega
  · have : len = 0 := by simp at h1; omega
    subst this
    rfl
theorem rs_10 (g g' : SetD) (len : Nat) (k s : Nat → Int) (b : Nat → ByteArray) (n : Nat → Int) (ρ0 : Emb) (w : World) (args' : Array Value) (hlen : len ≤ 70368744177664) (hro : ∀ i g, ρ0 i = .img g → g.rw = false) (wr : WRel ρ0 (mkH [opsO len k s b n]).den w) (ra : VsRel ρ0 (dens [scrS g (slO len), scrS g' nilO]) (Array.toList args')) :
    Calls E2.P 10 args' w fun e w' => e = .returned (.bool (sameS g (opsL len k s b n) g' [])) ∧ Below w.heap.size w w' := by
  refine calls_StL rsF_some rsC_some rsF_n (by decide) (by simp) wr ra fun bb st => ?_
  refine StL.piece sound2 thom2 1000 (V := vsel ⟨[], []⟩ ⟨[4], []⟩ ⟨[], []⟩) (T := .node (!(g.gx == g'.gx && (g.gxf == g'.gxf && (g.gy == g'.gy && (g.gyf == g'.gyf && (g.dt == g'.dt && (g.dtf == g'.dtf && (g.most == g'.most && (g.rounds == g'.rounds && (g.sess == g'.sess && (g.staged == g'.staged && (g.queue == g'.queue && true)))))))))))) (.leaf ⟨.ret, [.bool true false], []⟩) (.node ((len : Int) != (0 : Int)) (.leaf ⟨.ret, [.bool true false], []⟩) (.node (decide ((0 : Int) < (len : Int))) (.node (decide ((0 : Int) ≤ (0 : Int)) && (0 : Int).toNat.blt len) (.node (Nat.blt 0 len) .fail .fail) .fail) (.leaf ⟨.ret, [.bool true true], []⟩))))
    (by decide) (vok _ _ _ (by decide) (by decide) (by decide)) rsC_plans (fun j => by kernel_rfl) st ?_
  refine Holds.node (fun h0 => Holds.leaf ⟨rfl, fun b1 w1 st => rs_fin hro _ _ b1 w1 st (by rw [sameS, show eqSet g g' = false from by rw [Bool.not_eq_true'] at h0; exact h0, Bool.false_and])⟩) fun h0 => ?_
  have hE : eqSet g g' = true := by rw [Bool.not_eq_false'] at h0; exact h0
  rw [sameS, hE, Bool.true_and]
  refine Holds.node (fun h1 => Holds.leaf ⟨rfl, fun b1 w1 st => rs_fin hro _ _ b1 w1 st ?_⟩) fun h1 => Holds.node (fun h2 => absurd h2 ?_) fun h2 => Holds.leaf ⟨rfl, fun b1 w1 st => rs_fin hro _ _ b1 w1 st ?_⟩
  · rw [sameL_length]
    rw [opsL_length]
    simp at h1 ⊢
    omega
  · have : len = 0 := by simp at h1; omega
    subst this
    decide
  · have : len = 0 := by simp at h1; omega
    subst this
    rfl
theorem rs_11 (g g' : SetD) (len : Nat) (k s : Nat → Int) (b : Nat → ByteArray) (n : Nat → Int) (len' : Nat) (k' s' : Nat → Int) (b' : Nat → ByteArray) (n' : Nat → Int) (ρ0 : Emb) (w : World) (args' : Array Value) (hlen : len ≤ 70368744177664) (hlen' : len' ≤ 70368744177664) (hro : ∀ i g, ρ0 i = .img g → g.rw = false) (wr : WRel ρ0 (mkH [opsO len k s b n, opsO len' k' s' b' n']).den w) (ra : VsRel ρ0 (dens [scrS g (slP 0 len), scrS g' (slP 1 len')]) (Array.toList args')) :
    Calls E2.P 10 args' w fun e w' => e = .returned (.bool (sameS g (opsL len k s b n) g' (opsL len' k' s' b' n'))) ∧ Below w.heap.size w w' := by
  refine calls_StL rsF_some rsC_some rsF_n (by decide) (by simp) wr ra fun bb st => ?_
  refine StL.pre sound2 thom2 1000 1 (V := vsel ⟨[2, 3, 4], [0, 1, 3, 4]⟩ ⟨[4], []⟩ ⟨[], []⟩) (T := .node (!(g.gx == g'.gx && (g.gxf == g'.gxf && (g.gy == g'.gy && (g.gyf == g'.gyf && (g.dt == g'.dt && (g.dtf == g'.dtf && (g.most == g'.most && (g.rounds == g'.rounds && (g.sess == g'.sess && (g.staged == g'.staged && (g.queue == g'.queue && true)))))))))))) (.leaf ⟨.ret, [.bool true false], []⟩) (.node ((len : Int) != (len' : Int)) (.leaf ⟨.ret, [.bool true false], []⟩)
      (.leaf ⟨.normal, [.ptr 2 (.c 0), .ptr 3 (.c 0), .bool true false], rsO g len k s b n g' len' k' s' b' n'⟩)))
    (by decide) (vok _ _ _ (by decide) (by decide) (by decide)) rsC_plans (by kernel_rfl) (fun j => by kernel_rfl) st ?_
  refine Holds.node (fun h0 => Holds.leaf ⟨rfl, fun b1 w1 st => rs_fin hro _ _ b1 w1 st (by rw [sameS, show eqSet g g' = false from by rw [Bool.not_eq_true'] at h0; exact h0, Bool.false_and])⟩) fun h0 => ?_
  have hE : eqSet g g' = true := by rw [Bool.not_eq_false'] at h0; exact h0
  rw [sameS, hE, Bool.true_and]
  refine Holds.node (fun h1 => ?_) fun h1 => ?_
  · refine Holds.leaf ⟨rfl, fun b1 w1 st => rs_fin hro _ _ b1 w1 st ?_⟩
    rw [sameL_length]
    rw [opsL_length, opsL_length]
    simp at h1
    omega
  have heq : len' = len := by simp at h1; omega
  subst heq
  refine Holds.leaf ⟨rfl, fun b1 w1 st => ?_⟩
  show (postC 2 rsC).wp E2.P (bodyPostD E2.P rsF _) b1 w1
  refine wp_seqP (by kernel_rfl) ?_
  refine wp_seqP (by kernel_rfl) ?_
  refine StL.piece sound2 thom2 1000 (V := vsel ⟨[2, 3, 4, 5], [0, 1, 2, 3]⟩ ⟨[4], []⟩ ⟨[], []⟩) (T := .leaf ⟨.normal, [.ptr 2 (.c 0), .ptr 3 (.c 0), .bool true false, .int .i64 true 0], rsO g len' k s b n g' len' k' s' b' n'⟩)
    (by decide) (vok _ _ _ (by decide) (by decide) (by decide)) (by kernel_rfl) (fun j => by kernel_rfl) st ?_
  refine Holds.leaf ⟨rfl, fun b2 w2 st => ?_⟩
  show Code.wp E2.P (seqR (seqL (postC 2 rsC))) _ b2 w2
  refine wp_blockP (by kernel_rfl) ?_
  refine wp_loopP (by kernel_rfl) (fun m x w' => ∃ (i : Nat), m = len' - i ∧ i ≤ len' ∧ sameL (opsL len' k s b n) (opsL len' k' s' b' n') = sameL ((opsL len' k s b n).drop i) ((opsL len' k' s' b' n').drop i) ∧
    StL ρ0 w 38 ([2, 3, 4, 5].zip [.ptr 2 (.c 0), .ptr 3 (.c 0), .bool true false, .int .i64 false i]) (rsO g len' k s b n g' len' k' s' b' n') x w') ?_ ⟨0, rfl, Nat.zero_le _, by simp, st.conv rfl rfl⟩
  rintro _ b3 w3 ⟨i, rfl, hi, hacc, st⟩
  refine StL.piece sound2 thom2 1000 (V := vsel ⟨[2, 3, 4, 5], [0, 1, 2, 3]⟩ ⟨[4], []⟩ ⟨[], []⟩) (T := .node (decide ((i : Int) < (len' : Int))) (.node (decide ((0 : Int) ≤ (i : Int)) && (i : Int).toNat.blt len') (.node (i.blt len') (.node (decide ((0 : Int) ≤ (i : Int)) && (i : Int).toNat.blt len') (.node (i.blt len')
        (.node (!(k i == k' i && (s i == s' i && (b i == b' i && (n i == n' i && true))))) (.leaf ⟨.ret, [.bool true false], []⟩)
          (.leaf ⟨.normal, [.ptr 2 (.c 0), .ptr 3 (.c 0), .bool true false, .int .i64 false (IntKind.i64.wrap ((i : Int) + 1))], rsO g len' k s b n g' len' k' s' b' n'⟩)) .fail) .fail) .fail) .fail)
      (.leaf ⟨.exit 0, [], []⟩))
    (by decide) (vok _ _ _ (by decide) (by decide) (by decide)) (by kernel_rfl) (fun j => by kernel_rfl) st ?_
  refine Holds.node (fun h2 => ?_) fun h2 => ?_
  · have hlt : i < len' := by simpa using h2
    have hblt : i.blt len' = true := blt_true hlt
    refine Holds.node (fun _ => Holds.node (fun _ => Holds.node (fun _ => Holds.node (fun _ => Holds.node (fun h3 => ?_) fun h3 => ?_) fun hf => absurd hf (by rw [hblt]; decide)) fun hf => absurd hf (by simp [hblt])) fun hf => absurd hf (by rw [hblt]; decide)) fun hf => absurd hf (by simp [hblt])
    · refine .leaf ⟨rfl, fun b4 w4 st => rs_fin hro _ _ b4 w4 st ?_⟩
      rw [hacc, opsL_drop hlt, opsL_drop hlt, sameL]
      have : eqOp ⟨k i, s i, b i, n i⟩ ⟨k' i, s' i, b' i, n' i⟩ = false := by
        rw [Bool.not_eq_true'] at h3
        exact h3
      rw [this, Bool.false_and]
    · refine .leaf ⟨rfl, fun b4 w4 st => ?_⟩
      refine ⟨len' - (i + 1), by omega, i + 1, rfl, hlt, ?_, st.conv ?_ rfl⟩
      · rw [hacc, opsL_drop hlt, opsL_drop hlt, sameL]
        have : eqOp ⟨k i, s i, b i, n i⟩ ⟨k' i, s' i, b' i, n' i⟩ = true := by
          rw [Bool.not_eq_false'] at h3
          exact h3
        rw [this, Bool.true_and]
      · simp only [dens, SV.den, wrap_succ hlt hlen']
  · have hge : i = len' := by simp at h2; omega
    refine .leaf ⟨rfl, fun b4 w4 st => ?_⟩
    show Code.wp E2.P (seqR (postC 2 rsC)) _ b4 w4
    refine StL.piece sound2 thom2 1000 (V := vsel ⟨[], []⟩ ⟨[4], []⟩ ⟨[], []⟩) (T := .leaf ⟨.ret, [.bool true true], []⟩)
      (by decide) (vok _ _ _ (by decide) (by decide) (by decide)) (by kernel_rfl) (fun j => by kernel_rfl) st ?_
    refine Holds.leaf ⟨rfl, fun b9 w9 st => rs_fin hro _ _ b9 w9 st ?_⟩
    rw [hacc, hge, List.drop_eq_nil_of_le (by rw [opsL_length]; exact Nat.le_refl _), List.drop_eq_nil_of_le (by rw [opsL_length]; exact Nat.le_refl _)]
    rfl
theorem tab_rs : TabOK Tryz.prog 10 (scr2A fun g ops g2 ops2 => .bool (sameS g ops g2 ops2)) :=
  scr2_tab (fun _ _ _ _ => rfl) (fun g g2 ρ w args' => rs_00 g g2 ρ w args') (fun g g2 len k s b n ρ w args' => rs_01 g g2 len k s b n ρ w args') (fun g g2 len k s b n ρ w args' => rs_10 g g2 len k s b n ρ w args') fun g g2 len k s b n len' k' s' b' n' ρ w args' => rs_11 g g2 len k s b n len' k' s' b' n' ρ w args'
end Go.Ev
end
section
set_option maxRecDepth 100000
namespace Go.Ev
open Go.Proofs Go.RowKit
/-! The table for the laws. -/
def sAw : List SV → Option SV
  | [] => some (.bool true true)
  | _ :: _ => none
theorem sAw_hom : ∀ args id, Hom HV (scalS sAw args id) (scalA (specOf sAw) (dens args) id) := scal_hom fun args v h => by
  unfold sAw at h
  split at h
  · cases h; rfl
  · cases h
theorem tab_awake : TabOK Tryz.prog 5 (scalA (specOf sAw)) := scal_tab' fun sargs v hs => by
  unfold sAw at hs
  split at hs
  · cases hs
    exact ⟨rfl, rfl, fun w => awake_ok w⟩
  · cases hs
noncomputable def E4 : Env := (((((E3.add (one 5 (scalA (specOf sAw)))).add (one 4 (scrA fun _ ops => .bool (longQ ops)))).add (one 7 (scrA fun g ops => .int .i64 (checkR csV opV g ops)))).add
  (one 8 (scrA fun g ops => .int .i64 (checkQ r9V oneV g ops)))).add (one 9 (scr2A fun g ops g2 ops2 => .bool (sameS g ops g2 ops2)))).add (one 10 (scr2A fun g ops g2 ops2 => .bool (sameS g ops g2 ops2)))
noncomputable def S4 : STab := addS (oneSym 10 (scr2Sym fun g ops g2 ops2 => .bool false (sameS g ops g2 ops2))) (addS (oneSym 9 (scr2Sym fun g ops g2 ops2 => .bool false (sameS g ops g2 ops2)))
  (addS (oneSym 8 (scrSym fun g ops => .int .i64 false (checkQ r9V oneV g ops))) (addS (oneSym 7 (scrSym fun g ops => .int .i64 false (checkR csV opV g ops)))
  (addS (oneSym 4 (scrSym fun _ ops => .bool false (longQ ops))) (addS (oneSym 5 (scalS sAw)) S3)))))
theorem sound4 : Sound E4 := (((((sound3.add tab_awake).add tab_long).add tab_check).add tab_rcheck).add tab_hs).add tab_rs
theorem thom4 : TabHom E4 S4 := (((((thom3.add sAw_hom).add (scr_hom fun _ _ => rfl)).add (scr_hom fun _ _ => rfl)).add (scr_hom fun _ _ => rfl)).add (scr2_hom fun _ _ _ _ => rfl)).add (scr2_hom fun _ _ _ _ => rfl)
end Go.Ev
end
section
set_option maxRecDepth 100000
set_option linter.unusedVariables false
set_option linter.unusedSimpArgs false
namespace Go.Ev
open Go.Proofs Go.RowKit
/-! bagatellelaw10.HistoryChecks -/
noncomputable def lawC (g : SetD) (l : List OpD) (g' : SetD) (l' : List OpD) : Bool :=
  longQ l || (longQ l' || ((checkR csV opV g l == checkQ r9V oneV g l) && ((sameS g l g' l' == sameS g l g' l') && (sameS g l g l && (sameS g l g l && sameS g' l' g' l')))))
theorem Holds.yes {α : Type} {p : α → Prop} {c : Bool} {t f : Tree α} (h : c = true) (k : Holds p t) : Holds p (.node c t f) := Holds.node (fun _ => k) fun hf => by rw [h] at hf; cases hf
theorem Holds.no {α : Type} {p : α → Prop} {c : Bool} {t f : Tree α} (h : c = false) (k : Holds p f) : Holds p (.node c t f) := Holds.node (fun hf => by rw [h] at hf; cases hf) fun _ => k
theorem bleA (x : Nat) : Nat.ble (Nat.div 0 4 + x) x = true := Nat.ble_eq_true_of_le (show 0 + x ≤ x by omega)
theorem capA {x : Nat} (h : x ≤ 450) : (Nat.ble x 70368744177664 && capRoom x 40) = true := by
  rw [Nat.ble_eq_true_of_le (by omega : x ≤ 70368744177664), Bool.true_and]
  exact Nat.ble_eq_true_of_le (by omega)
theorem long450 {l : List OpD} (h : longQ l = false) : l.length ≤ 450 := by
  simp only [longQ, decide_eq_false_iff_not] at h
  omega
theorem opsL_zero (k s : Nat → Int) (b : Nat → ByteArray) (n : Nat → Int) : opsL 0 k s b n = [] := rfl
theorem longQ_nil : longQ [] = false := by decide
noncomputable def wC00 (g g' : SetD) : Tree SEnd :=
(.node (longQ [])
 (.leaf (.returned (.bool true true)))
 (.node (longQ [])
  (.leaf (.returned (.bool true true)))
  (.node (checkR csV opV g [] == checkQ r9V oneV g [])
   (.node (sameS g [] g' [] == sameS g [] g' [])
    (.node (sameS g [] g [])
     (.node (sameS g [] g [])
      (.node (sameS g' [] g' [])
       (.leaf (.returned (.bool true true)))
       (.leaf (.returned (.bool true false)))
      )
      (.leaf (.returned (.bool true false)))
     )
     (.leaf (.returned (.bool true false)))
    )
    (.leaf (.returned (.bool true false)))
   )
   (.leaf (.returned (.bool true false)))
  )
 )
)

noncomputable def wC10 (g g' : SetD) (len : Nat) (k s : Nat → Int) (b : Nat → ByteArray) (n : Nat → Int) : Tree SEnd :=
(.node ((Nat.div 0 4 + len).ble len)
 (.node (len.ble (70368744177664 : Nat))
  (.node (longQ (opsL len k s b n))
   (.leaf (.returned (.bool true true)))
   (.node (longQ [])
    (.leaf (.returned (.bool true true)))
    (.node ((Nat.div 0 4 + len).ble len)
     (.node (len.beq (0 : Nat))
      (.node ((Nat.div 0 4 + len).ble len)
       (.node (len.ble (70368744177664 : Nat))
        (.node (checkR csV opV g [] == checkQ r9V oneV g (opsL len k s b n))
         (.node ((Nat.div 0 4 + len).ble len)
          (.node (len.ble (70368744177664 : Nat))
           (.node (sameS g [] g' [] == sameS g (opsL len k s b n) g' [])
            (.node (sameS g [] g [])
             (.node ((Nat.div 0 4 + len).ble len)
              (.node (len.ble (70368744177664 : Nat))
               (.node (sameS g [] g (opsL len k s b n))
                (.node (sameS g' [] g' [])
                 (.leaf (.returned (.bool true true)))
                 (.leaf (.returned (.bool true false)))
                )
                (.leaf (.returned (.bool true false)))
               )
               .fail
              )
              .fail
             )
             (.leaf (.returned (.bool true false)))
            )
            (.leaf (.returned (.bool true false)))
           )
           .fail
          )
          .fail
         )
         (.leaf (.returned (.bool true false)))
        )
        .fail
       )
       .fail
      )
      (.node ((0 + len).ble (70368744177664 : Nat) && capRoom (0 + len) (40 : Nat))
       (.node ((Nat.div 0 4 + (0 + len)).ble len)
        (.node ((0 + len).ble (70368744177664 : Nat))
         (.node ((Nat.div 0 4 + len).ble len)
          (.node (len.ble (70368744177664 : Nat))
           (.node (checkR csV opV g (opsL (0 + len) k s b n) == checkQ r9V oneV g (opsL len k s b n))
            (.node ((Nat.div 0 4 + (0 + len)).ble len)
             (.node ((0 + len).ble (70368744177664 : Nat))
              (.node ((Nat.div 0 4 + len).ble len)
               (.node (len.ble (70368744177664 : Nat))
                (.node (sameS g (opsL (0 + len) k s b n) g' [] == sameS g (opsL len k s b n) g' [])
                 (.node ((Nat.div 0 4 + (0 + len)).ble len)
                  (.node ((0 + len).ble (70368744177664 : Nat))
                   (.node ((Nat.div 0 4 + (0 + len)).ble len)
                    (.node ((0 + len).ble (70368744177664 : Nat))
                     (.node (sameS g (opsL (0 + len) k s b n) g (opsL (0 + len) k s b n))
                      (.node ((Nat.div 0 4 + (0 + len)).ble len)
                       (.node ((0 + len).ble (70368744177664 : Nat))
                        (.node ((Nat.div 0 4 + len).ble len)
                         (.node (len.ble (70368744177664 : Nat))
                          (.node (sameS g (opsL (0 + len) k s b n) g (opsL len k s b n))
                           (.node (sameS g' [] g' [])
                            (.leaf (.returned (.bool true true)))
                            (.leaf (.returned (.bool true false)))
                           )
                           (.leaf (.returned (.bool true false)))
                          )
                          .fail
                         )
                         .fail
                        )
                        .fail
                       )
                       .fail
                      )
                      (.leaf (.returned (.bool true false)))
                     )
                     .fail
                    )
                    .fail
                   )
                   .fail
                  )
                  .fail
                 )
                 (.leaf (.returned (.bool true false)))
                )
                .fail
               )
               .fail
              )
              .fail
             )
             .fail
            )
            (.leaf (.returned (.bool true false)))
           )
           .fail
          )
          .fail
         )
         .fail
        )
        .fail
       )
       .fail
      )
     )
     .fail
    )
   )
  )
  .fail
 )
 .fail
)

noncomputable def wC01 (g g' : SetD) (len : Nat) (k s : Nat → Int) (b : Nat → ByteArray) (n : Nat → Int) : Tree SEnd :=
(.node (longQ [])
 (.leaf (.returned (.bool true true)))
 (.node ((Nat.div 0 4 + len).ble len)
  (.node (len.ble (70368744177664 : Nat))
   (.node (longQ (opsL len k s b n))
    (.leaf (.returned (.bool true true)))
    (.node ((Nat.div 0 4 + len).ble len)
     (.node (len.beq (0 : Nat))
      (.node (checkR csV opV g [] == checkQ r9V oneV g [])
       (.node ((Nat.div 0 4 + len).ble len)
        (.node (len.ble (70368744177664 : Nat))
         (.node (sameS g [] g' [] == sameS g [] g' (opsL len k s b n))
          (.node (sameS g [] g [])
           (.node (sameS g [] g [])
            (.node ((Nat.div 0 4 + len).ble len)
             (.node (len.ble (70368744177664 : Nat))
              (.node (sameS g' [] g' (opsL len k s b n))
               (.leaf (.returned (.bool true true)))
               (.leaf (.returned (.bool true false)))
              )
              .fail
             )
             .fail
            )
            (.leaf (.returned (.bool true false)))
           )
           (.leaf (.returned (.bool true false)))
          )
          (.leaf (.returned (.bool true false)))
         )
         .fail
        )
        .fail
       )
       (.leaf (.returned (.bool true false)))
      )
      (.node ((0 + len).ble (70368744177664 : Nat) && capRoom (0 + len) (40 : Nat))
       (.node (checkR csV opV g [] == checkQ r9V oneV g [])
        (.node ((Nat.div 0 4 + (0 + len)).ble len)
         (.node ((0 + len).ble (70368744177664 : Nat))
          (.node ((Nat.div 0 4 + len).ble len)
           (.node (len.ble (70368744177664 : Nat))
            (.node (sameS g [] g' (opsL (0 + len) k s b n) == sameS g [] g' (opsL len k s b n))
             (.node (sameS g [] g [])
              (.node (sameS g [] g [])
               (.node ((Nat.div 0 4 + (0 + len)).ble len)
                (.node ((0 + len).ble (70368744177664 : Nat))
                 (.node ((Nat.div 0 4 + len).ble len)
                  (.node (len.ble (70368744177664 : Nat))
                   (.node (sameS g' (opsL (0 + len) k s b n) g' (opsL len k s b n))
                    (.leaf (.returned (.bool true true)))
                    (.leaf (.returned (.bool true false)))
                   )
                   .fail
                  )
                  .fail
                 )
                 .fail
                )
                .fail
               )
               (.leaf (.returned (.bool true false)))
              )
              (.leaf (.returned (.bool true false)))
             )
             (.leaf (.returned (.bool true false)))
            )
            .fail
           )
           .fail
          )
          .fail
         )
         .fail
        )
        (.leaf (.returned (.bool true false)))
       )
       .fail
      )
     )
     .fail
    )
   )
   .fail
  )
  .fail
 )
)

noncomputable def wC11 (g g' : SetD) (len : Nat) (k s : Nat → Int) (b : Nat → ByteArray) (n : Nat → Int) (len' : Nat) (k' s' : Nat → Int) (b' : Nat → ByteArray) (n' : Nat → Int) : Tree SEnd :=
(.node ((Nat.div 0 4 + len).ble len)
 (.node (len.ble (70368744177664 : Nat))
  (.node (longQ (opsL len k s b n))
   (.leaf (.returned (.bool true true)))
   (.node ((Nat.div 0 4 + len').ble len')
    (.node (len'.ble (70368744177664 : Nat))
     (.node (longQ (opsL len' k' s' b' n'))
      (.leaf (.returned (.bool true true)))
      (.node ((Nat.div 0 4 + len).ble len)
       (.node (len.beq (0 : Nat))
        (.node ((Nat.div 0 4 + len').ble len')
         (.node (len'.beq (0 : Nat))
          (.node ((Nat.div 0 4 + len).ble len)
           (.node (len.ble (70368744177664 : Nat))
            (.node (checkR csV opV g [] == checkQ r9V oneV g (opsL len k s b n))
             (.node ((Nat.div 0 4 + len).ble len)
              (.node (len.ble (70368744177664 : Nat))
               (.node ((Nat.div 0 4 + len').ble len')
                (.node (len'.ble (70368744177664 : Nat))
                 (.node (sameS g [] g' [] == sameS g (opsL len k s b n) g' (opsL len' k' s' b' n'))
                  (.node (sameS g [] g [])
                   (.node ((Nat.div 0 4 + len).ble len)
                    (.node (len.ble (70368744177664 : Nat))
                     (.node (sameS g [] g (opsL len k s b n))
                      (.node ((Nat.div 0 4 + len').ble len')
                       (.node (len'.ble (70368744177664 : Nat))
                        (.node (sameS g' [] g' (opsL len' k' s' b' n'))
                         (.leaf (.returned (.bool true true)))
                         (.leaf (.returned (.bool true false)))
                        )
                        .fail
                       )
                       .fail
                      )
                      (.leaf (.returned (.bool true false)))
                     )
                     .fail
                    )
                    .fail
                   )
                   (.leaf (.returned (.bool true false)))
                  )
                  (.leaf (.returned (.bool true false)))
                 )
                 .fail
                )
                .fail
               )
               .fail
              )
              .fail
             )
             (.leaf (.returned (.bool true false)))
            )
            .fail
           )
           .fail
          )
          (.node ((0 + len').ble (70368744177664 : Nat) && capRoom (0 + len') (40 : Nat))
           (.node ((Nat.div 0 4 + len).ble len)
            (.node (len.ble (70368744177664 : Nat))
             (.node (checkR csV opV g [] == checkQ r9V oneV g (opsL len k s b n))
              (.node ((Nat.div 0 4 + (0 + len')).ble len')
               (.node ((0 + len').ble (70368744177664 : Nat))
                (.node ((Nat.div 0 4 + len).ble len)
                 (.node (len.ble (70368744177664 : Nat))
                  (.node ((Nat.div 0 4 + len').ble len')
                   (.node (len'.ble (70368744177664 : Nat))
                    (.node (sameS g [] g' (opsL (0 + len') k' s' b' n') == sameS g (opsL len k s b n) g' (opsL len' k' s' b' n'))
                     (.node (sameS g [] g [])
                      (.node ((Nat.div 0 4 + len).ble len)
                       (.node (len.ble (70368744177664 : Nat))
                        (.node (sameS g [] g (opsL len k s b n))
                         (.node ((Nat.div 0 4 + (0 + len')).ble len')
                          (.node ((0 + len').ble (70368744177664 : Nat))
                           (.node ((Nat.div 0 4 + len').ble len')
                            (.node (len'.ble (70368744177664 : Nat))
                             (.node (sameS g' (opsL (0 + len') k' s' b' n') g' (opsL len' k' s' b' n'))
                              (.leaf (.returned (.bool true true)))
                              (.leaf (.returned (.bool true false)))
                             )
                             .fail
                            )
                            .fail
                           )
                           .fail
                          )
                          .fail
                         )
                         (.leaf (.returned (.bool true false)))
                        )
                        .fail
                       )
                       .fail
                      )
                      (.leaf (.returned (.bool true false)))
                     )
                     (.leaf (.returned (.bool true false)))
                    )
                    .fail
                   )
                   .fail
                  )
                  .fail
                 )
                 .fail
                )
                .fail
               )
               .fail
              )
              (.leaf (.returned (.bool true false)))
             )
             .fail
            )
            .fail
           )
           .fail
          )
         )
         .fail
        )
        (.node ((0 + len).ble (70368744177664 : Nat) && capRoom (0 + len) (40 : Nat))
         (.node ((Nat.div 0 4 + len').ble len')
          (.node (len'.beq (0 : Nat))
           (.node ((Nat.div 0 4 + (0 + len)).ble len)
            (.node ((0 + len).ble (70368744177664 : Nat))
             (.node ((Nat.div 0 4 + len).ble len)
              (.node (len.ble (70368744177664 : Nat))
               (.node (checkR csV opV g (opsL (0 + len) k s b n) == checkQ r9V oneV g (opsL len k s b n))
                (.node ((Nat.div 0 4 + (0 + len)).ble len)
                 (.node ((0 + len).ble (70368744177664 : Nat))
                  (.node ((Nat.div 0 4 + len).ble len)
                   (.node (len.ble (70368744177664 : Nat))
                    (.node ((Nat.div 0 4 + len').ble len')
                     (.node (len'.ble (70368744177664 : Nat))
                      (.node (sameS g (opsL (0 + len) k s b n) g' [] == sameS g (opsL len k s b n) g' (opsL len' k' s' b' n'))
                       (.node ((Nat.div 0 4 + (0 + len)).ble len)
                        (.node ((0 + len).ble (70368744177664 : Nat))
                         (.node ((Nat.div 0 4 + (0 + len)).ble len)
                          (.node ((0 + len).ble (70368744177664 : Nat))
                           (.node (sameS g (opsL (0 + len) k s b n) g (opsL (0 + len) k s b n))
                            (.node ((Nat.div 0 4 + (0 + len)).ble len)
                             (.node ((0 + len).ble (70368744177664 : Nat))
                              (.node ((Nat.div 0 4 + len).ble len)
                               (.node (len.ble (70368744177664 : Nat))
                                (.node (sameS g (opsL (0 + len) k s b n) g (opsL len k s b n))
                                 (.node ((Nat.div 0 4 + len').ble len')
                                  (.node (len'.ble (70368744177664 : Nat))
                                   (.node (sameS g' [] g' (opsL len' k' s' b' n'))
                                    (.leaf (.returned (.bool true true)))
                                    (.leaf (.returned (.bool true false)))
                                   )
                                   .fail
                                  )
                                  .fail
                                 )
                                 (.leaf (.returned (.bool true false)))
                                )
                                .fail
                               )
                               .fail
                              )
                              .fail
                             )
                             .fail
                            )
                            (.leaf (.returned (.bool true false)))
                           )
                           .fail
                          )
                          .fail
                         )
                         .fail
                        )
                        .fail
                       )
                       (.leaf (.returned (.bool true false)))
                      )
                      .fail
                     )
                     .fail
                    )
                    .fail
                   )
                   .fail
                  )
                  .fail
                 )
                 .fail
                )
                (.leaf (.returned (.bool true false)))
               )
               .fail
              )
              .fail
             )
             .fail
            )
            .fail
           )
           (.node ((0 + len').ble (70368744177664 : Nat) && capRoom (0 + len') (40 : Nat))
            (.node ((Nat.div 0 4 + (0 + len)).ble len)
             (.node ((0 + len).ble (70368744177664 : Nat))
              (.node ((Nat.div 0 4 + len).ble len)
               (.node (len.ble (70368744177664 : Nat))
                (.node (checkR csV opV g (opsL (0 + len) k s b n) == checkQ r9V oneV g (opsL len k s b n))
                 (.node ((Nat.div 0 4 + (0 + len)).ble len)
                  (.node ((0 + len).ble (70368744177664 : Nat))
                   (.node ((Nat.div 0 4 + (0 + len')).ble len')
                    (.node ((0 + len').ble (70368744177664 : Nat))
                     (.node ((Nat.div 0 4 + len).ble len)
                      (.node (len.ble (70368744177664 : Nat))
                       (.node ((Nat.div 0 4 + len').ble len')
                        (.node (len'.ble (70368744177664 : Nat))
                         (.node (sameS g (opsL (0 + len) k s b n) g' (opsL (0 + len') k' s' b' n') == sameS g (opsL len k s b n) g' (opsL len' k' s' b' n'))
                          (.node ((Nat.div 0 4 + (0 + len)).ble len)
                           (.node ((0 + len).ble (70368744177664 : Nat))
                            (.node ((Nat.div 0 4 + (0 + len)).ble len)
                             (.node ((0 + len).ble (70368744177664 : Nat))
                              (.node (sameS g (opsL (0 + len) k s b n) g (opsL (0 + len) k s b n))
                               (.node ((Nat.div 0 4 + (0 + len)).ble len)
                                (.node ((0 + len).ble (70368744177664 : Nat))
                                 (.node ((Nat.div 0 4 + len).ble len)
                                  (.node (len.ble (70368744177664 : Nat))
                                   (.node (sameS g (opsL (0 + len) k s b n) g (opsL len k s b n))
                                    (.node ((Nat.div 0 4 + (0 + len')).ble len')
                                     (.node ((0 + len').ble (70368744177664 : Nat))
                                      (.node ((Nat.div 0 4 + len').ble len')
                                       (.node (len'.ble (70368744177664 : Nat))
                                        (.node (sameS g' (opsL (0 + len') k' s' b' n') g' (opsL len' k' s' b' n'))
                                         (.leaf (.returned (.bool true true)))
                                         (.leaf (.returned (.bool true false)))
                                        )
                                        .fail
                                       )
                                       .fail
                                      )
                                      .fail
                                     )
                                     .fail
                                    )
                                    (.leaf (.returned (.bool true false)))
                                   )
                                   .fail
                                  )
                                  .fail
                                 )
                                 .fail
                                )
                                .fail
                               )
                               (.leaf (.returned (.bool true false)))
                              )
                              .fail
                             )
                             .fail
                            )
                            .fail
                           )
                           .fail
                          )
                          (.leaf (.returned (.bool true false)))
                         )
                         .fail
                        )
                        .fail
                       )
                       .fail
                      )
                      .fail
                     )
                     .fail
                    )
                    .fail
                   )
                   .fail
                  )
                  .fail
                 )
                 (.leaf (.returned (.bool true false)))
                )
                .fail
               )
               .fail
              )
              .fail
             )
             .fail
            )
            .fail
           )
          )
          .fail
         )
         .fail
        )
       )
       .fail
      )
     )
     .fail
    )
    .fail
   )
  )
  .fail
 )
 .fail
)

theorem treeC_00 (g g' : SetD)  : endT (evalCallS E4 S4 1000 3 [scrS g nilO, scrS g' nilO] (mkH [])) = wC00 g g'  := by kernel_rfl
theorem holdsC_00 (g g' : SetD)   : Holds (fun x : SEnd => x.den = .returned (.bool (lawC g [] g' []))) (wC00 g g' ) := by
  have fin : ∀ (v l : Bool), v = lawC g [] g' [] → Holds (fun x : SEnd => x.den = .returned (.bool (lawC g [] g' []))) (.leaf (.returned (.bool l v))) := fun v l h => Holds.leaf (by rw [← h]; rfl)
  unfold wC00
  try simp only [Nat.zero_add]
  repeat' first
    | exact fin _ _ (by simp_all [lawC, longQ_nil, opsL_zero])
    | refine Holds.yes (by first | exact bleA _) ?_
    | refine Holds.node (fun _ => ?_) fun _ => ?_
theorem treeC_01 (g g' : SetD) (len : Nat) (k s : Nat → Int) (b : Nat → ByteArray) (n : Nat → Int) : endT (evalCallS E4 S4 1000 3 [scrS g nilO, scrS g' (slO len)] (mkH [opsO len k s b n])) = wC01 g g' len k s b n := by kernel_rfl
theorem holdsC_01 (g g' : SetD) (len : Nat) (k s : Nat → Int) (b : Nat → ByteArray) (n : Nat → Int) (hlen : len ≤ 70368744177664) : Holds (fun x : SEnd => x.den = .returned (.bool (lawC g [] g' (opsL len k s b n)))) (wC01 g g' len k s b n) := by
  have fin : ∀ (v l : Bool), v = lawC g [] g' (opsL len k s b n) → Holds (fun x : SEnd => x.den = .returned (.bool (lawC g [] g' (opsL len k s b n)))) (.leaf (.returned (.bool l v))) := fun v l h => Holds.leaf (by rw [← h]; rfl)
  unfold wC01
  try simp only [Nat.zero_add]
  have hlenb : Nat.ble len 70368744177664 = true := Nat.ble_eq_true_of_le hlen
  have hlenc : longQ (opsL len k s b n) = false → (Nat.ble len 70368744177664 && capRoom len 40) = true := fun h => capA (by have := long450 h; rw [opsL_length] at this; exact this)
  repeat' first
    | exact fin _ _ (by simp_all [lawC, longQ_nil, opsL_zero])
    | refine Holds.yes (by first | exact bleA _ | exact hlenb | exact hlenc (by assumption)) ?_
    | refine Holds.node (fun _ => ?_) fun _ => ?_
theorem treeC_10 (g g' : SetD) (len : Nat) (k s : Nat → Int) (b : Nat → ByteArray) (n : Nat → Int) : endT (evalCallS E4 S4 1000 3 [scrS g (slO len), scrS g' nilO] (mkH [opsO len k s b n])) = wC10 g g' len k s b n := by kernel_rfl
theorem holdsC_10 (g g' : SetD) (len : Nat) (k s : Nat → Int) (b : Nat → ByteArray) (n : Nat → Int) (hlen : len ≤ 70368744177664) : Holds (fun x : SEnd => x.den = .returned (.bool (lawC g (opsL len k s b n) g' []))) (wC10 g g' len k s b n) := by
  have fin : ∀ (v l : Bool), v = lawC g (opsL len k s b n) g' [] → Holds (fun x : SEnd => x.den = .returned (.bool (lawC g (opsL len k s b n) g' []))) (.leaf (.returned (.bool l v))) := fun v l h => Holds.leaf (by rw [← h]; rfl)
  unfold wC10
  try simp only [Nat.zero_add]
  have hlenb : Nat.ble len 70368744177664 = true := Nat.ble_eq_true_of_le hlen
  have hlenc : longQ (opsL len k s b n) = false → (Nat.ble len 70368744177664 && capRoom len 40) = true := fun h => capA (by have := long450 h; rw [opsL_length] at this; exact this)
  repeat' first
    | exact fin _ _ (by simp_all [lawC, longQ_nil, opsL_zero])
    | refine Holds.yes (by first | exact bleA _ | exact hlenb | exact hlenc (by assumption)) ?_
    | refine Holds.node (fun _ => ?_) fun _ => ?_
theorem treeC_11 (g g' : SetD) (len : Nat) (k s : Nat → Int) (b : Nat → ByteArray) (n : Nat → Int) (len' : Nat) (k' s' : Nat → Int) (b' : Nat → ByteArray) (n' : Nat → Int) : endT (evalCallS E4 S4 1000 3 [scrS g (slP 0 len), scrS g' (slP 1 len')] (mkH [opsO len k s b n, opsO len' k' s' b' n'])) = wC11 g g' len k s b n len' k' s' b' n' := by kernel_rfl
theorem holdsC_11 (g g' : SetD) (len : Nat) (k s : Nat → Int) (b : Nat → ByteArray) (n : Nat → Int) (len' : Nat) (k' s' : Nat → Int) (b' : Nat → ByteArray) (n' : Nat → Int) (hlen : len ≤ 70368744177664) (hlen' : len' ≤ 70368744177664) : Holds (fun x : SEnd => x.den = .returned (.bool (lawC g (opsL len k s b n) g' (opsL len' k' s' b' n')))) (wC11 g g' len k s b n len' k' s' b' n') := by
  have fin : ∀ (v l : Bool), v = lawC g (opsL len k s b n) g' (opsL len' k' s' b' n') → Holds (fun x : SEnd => x.den = .returned (.bool (lawC g (opsL len k s b n) g' (opsL len' k' s' b' n')))) (.leaf (.returned (.bool l v))) := fun v l h => Holds.leaf (by rw [← h]; rfl)
  unfold wC11
  try simp only [Nat.zero_add]
  have hlenb : Nat.ble len 70368744177664 = true := Nat.ble_eq_true_of_le hlen
  have hlenc : longQ (opsL len k s b n) = false → (Nat.ble len 70368744177664 && capRoom len 40) = true := fun h => capA (by have := long450 h; rw [opsL_length] at this; exact this)
  have hlen'b : Nat.ble len' 70368744177664 = true := Nat.ble_eq_true_of_le hlen'
  have hlen'c : longQ (opsL len' k' s' b' n') = false → (Nat.ble len' 70368744177664 && capRoom len' 40) = true := fun h => capA (by have := long450 h; rw [opsL_length] at this; exact this)
  repeat' first
    | exact fin _ _ (by simp_all [lawC, longQ_nil, opsL_zero])
    | refine Holds.yes (by first | exact bleA _ | exact hlenb | exact hlenc (by assumption) | exact hlen'b | exact hlen'c (by assumption)) ?_
    | refine Holds.node (fun _ => ?_) fun _ => ?_
end Go.Ev
end
section
set_option maxRecDepth 100000
/-! The law HistoryChecks, called in whatever world. -/
namespace Go.Ev
open Go.Proofs Go.RowKit
theorem checks_law {g g' : SetD} {l l' : List OpD} (hx : i64In g.gx) (hy : i64In g.gy) (hd : i64In g.dt) (hb : ∀ op ∈ l, op.b.size ≤ 140737488355328) : lawC g l g' l' = true := by
  unfold lawC
  cases h1 : longQ l with
  | true => rfl
  | false =>
    cases h2 : longQ l' with
    | true => rfl
    | false =>
      rw [check_eq (csV_r9V hx hy hd) hb h1]
      simp [sameS_refl]
theorem checks_walk {w : World} {x y : Value} {g g' : SetD} {l l' : List OpD} (hx : ScrW w x g l) (hy : ScrW w y g' l') :
    Calls Tryz.prog 3 #[x, y] w fun e w' => e = .returned (.bool (lawC g l g' l')) ∧ Below w.heap.size w w' := by
  obtain ⟨o, rfl, hx⟩ := hx
  obtain ⟨o', rfl, hy⟩ := hy
  rcases hx with ⟨rfl, rfl⟩ | ⟨s, hx⟩
  · rcases hy with ⟨rfl, rfl⟩ | ⟨s', hy⟩
    · exact call_of_tree sound4 thom4 1000 (treeC_00 g g') (wEmb_ro (l := []) (fun s hs => by cases hs)) (holdsC_00 g g') rfl
        (wEmb_WRel (l := []) (O := []) rfl (by decide) (fun s hs => by cases hs) fun i s o hs => by simp at hs) (sargs' := [scrS g nilO, scrS g' nilO]) (.cons _ _ _ _ nilW_rel (.cons _ _ _ _ nilW_rel .nil))
    · have hro : ∀ s ∈ [s'], ∀ g, s = .img g → g.rw = false := fun s hs => by
        obtain rfl := List.mem_singleton.1 hs
        exact hy.ro
      have := holdsC_01 g g' l'.length (fk l') (fs l') (fb l') (fn l') hy.len
      rw [opsL_get] at this
      exact call_of_tree sound4 thom4 1000 (treeC_01 g g' l'.length (fk l') (fs l') (fb l') (fn l')) (wEmb_ro hro) this rfl
        (wEmb_WRel (O := [opsO l'.length (fk l') (fs l') (fb l') (fn l')]) rfl (by show 1 < most; decide) hro fun i s o hs ho => by
          match i, hs, ho with
          | 0, hs, ho => cases hs; cases ho; exact hy.at _
          | i + 1, hs, ho => simp at hs) (sargs' := [scrS g nilO, scrS g' (slO l'.length)]) (.cons _ _ _ _ nilW_rel (.cons _ _ _ _ (scrW_rel (hy.rel (wEmb_at rfl))) .nil))
  · rcases hy with ⟨rfl, rfl⟩ | ⟨s', hy⟩
    · have hro : ∀ s' ∈ [s], ∀ g, s' = .img g → g.rw = false := fun s hs => by
        obtain rfl := List.mem_singleton.1 hs
        exact hx.ro
      have := holdsC_10 g g' l.length (fk l) (fs l) (fb l) (fn l) hx.len
      rw [opsL_get] at this
      exact call_of_tree sound4 thom4 1000 (treeC_10 g g' l.length (fk l) (fs l) (fb l) (fn l)) (wEmb_ro hro) this rfl
        (wEmb_WRel (O := [opsO l.length (fk l) (fs l) (fb l) (fn l)]) rfl (by show 1 < most; decide) hro fun i s o hs ho => by
          match i, hs, ho with
          | 0, hs, ho => cases hs; cases ho; exact hx.at _
          | i + 1, hs, ho => simp at hs) (sargs' := [scrS g (slO l.length), scrS g' nilO]) (.cons _ _ _ _ (scrW_rel (hx.rel (wEmb_at rfl))) (.cons _ _ _ _ nilW_rel .nil))
    · have hro : ∀ q ∈ [s, s'], ∀ g, q = .img g → g.rw = false := fun q hq => by
        rcases List.mem_cons.1 hq with rfl | hq
        · exact hx.ro
        · obtain rfl := List.mem_singleton.1 hq
          exact hy.ro
      have := holdsC_11 g g' l.length (fk l) (fs l) (fb l) (fn l) l'.length (fk l') (fs l') (fb l') (fn l') hx.len hy.len
      rw [opsL_get, opsL_get] at this
      exact call_of_tree sound4 thom4 1000 (treeC_11 g g' l.length (fk l) (fs l) (fb l) (fn l) l'.length (fk l') (fs l') (fb l') (fn l')) (wEmb_ro hro) this rfl
        (wEmb_WRel (O := [opsO l.length (fk l) (fs l) (fb l) (fn l), opsO l'.length (fk l') (fs l') (fb l') (fn l')]) rfl (by show 2 < most; decide) hro fun i s o hs ho => by
          match i, hs, ho with
          | 0, hs, ho => cases hs; cases ho; exact hx.at _
          | 1, hs, ho => cases hs; cases ho; exact hy.at _
          | i + 2, hs, ho => simp at hs) (sargs' := [scrS g (slP 0 l.length), scrS g' (slP 1 l'.length)]) (.cons _ _ _ _ (scrW_rel (hx.rel (wEmb_at rfl))) (.cons _ _ _ _ (scrW_rel (hy.rel (wEmb_at rfl))) .nil))
theorem checks_true {w : World} {x y : Value} {g g' : SetD} {l l' : List OpD} (hx : ScrW w x g l) (hy : ScrW w y g' l') (h1 : i64In g.gx) (h2 : i64In g.gy) (h3 : i64In g.dt) (hb : ∀ op ∈ l, op.b.size ≤ 140737488355328) :
    Calls Tryz.prog 3 #[x, y] w fun e w' => e = .returned (.bool true) ∧ Below w.heap.size w w' := by
  have := checks_walk hx hy
  rw [checks_law h1 h2 h3 hb] at this
  exact this
end Go.Ev
end

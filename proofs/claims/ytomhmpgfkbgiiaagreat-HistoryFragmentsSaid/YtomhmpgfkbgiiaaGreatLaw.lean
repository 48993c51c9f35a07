import Derived.Test.YtomhmpgfkbgiiaaGreatFactL
import Derived.Test.YtomhmpgfkbgiiaaGreatSpA
import Derived.Test.YtomhmpgfkbgiiaaGreatSeB
import Derived.Test.YtomhmpgfkbgiiaaGreatSeF
import Derived.Laws.Strings
section
set_option maxRecDepth 100000
namespace Go.Ev
open Go.Proofs Go.RowKit
theorem tree_cmp (a : Int) (af : Bool) (b : Int) (bf : Bool) : endT (evalCallS E0 noS 1000 69 [.agg [.int .i64 false a, .bool false af], .agg [.int .i64 false b, .bool false bf]] SH.empty) = T_cmp a af b bf := by kernel_rfl
theorem tab_cmp : TabOK Tryz.prog 69 (scalA (specOf sCmp)) := scal_tab' fun sargs v h => by
  unfold sCmp at h
  split at h
  · rename_i _ a _ af _ b _ bf
    cases h
    refine ⟨rfl, rfl, fun w => scal_of_tree sound0 TabHom.none 1000 (sargs := [.agg [.int .i64 false a, .bool false af], .agg [.int .i64 false b, .bool false bf]]) (tree_cmp a af b bf) rfl rfl (resInt_eq ?_) w⟩
    unfold T_cmp
    repeat' (first | exact .leaf ⟨_, _, rfl⟩ | refine .node (fun _ => ?_) fun _ => ?_)
  · cases h
theorem hom_cmp : ∀ args id, Hom HV (scalS sCmp args id) (scalA (specOf sCmp) (dens args) id) := scal_hom fun args v h => by
  unfold sCmp at h
  split at h
  · cases h; rfl
  · cases h

theorem tree_reach (x : Int) (xf : Bool) (y : Int) (yf : Bool) : endT (evalCallS E0 noS 1000 71 [.int .i64 true 64, .sl 0 (.c 0) ⟨true, 1⟩ 4] (mkH [.cells [.int .i64 false x, .bool false xf, .int .i64 false y, .bool false yf] false])) = T_reach x xf y yf := by kernel_rfl
theorem tab_reach : TabOK Tryz.prog 71 (rowA 4 sReach) := row_tab fun a l n v h hl hp1 hp2 ρ w args' hro wr ra => by
  unfold sReach at h
  split at h
  · rename_i _ m _ x _ xf _ y _ yf
    cases hm : decide (m = 64) with
    | false => rw [hm] at h; cases h
    | true =>
      rw [hm] at h
      cases h
      have hm : m = 64 := by simpa using hm
      subst hm
      have hn : n = 1 := by simp at hl; omega
      subst hn
      have hh : Holds (fun x => ∃ l b, x = .returned (.bool l b)) (T_reach x xf y yf) := by
        unfold T_reach
        repeat' (first | exact .leaf ⟨_, _, rfl⟩ | refine .node (fun _ => ?_) fun _ => ?_)
      exact call_of_tree sound0 TabHom.none 1000 (tree_reach x xf y yf) hro (resBool_eq hh) rfl wr ra
  · cases h
theorem hom_reach : ∀ args id, Hom HV (rowSym 4 sReach args id) (rowA 4 sReach (dens args) id) := row_hom fun a l v h => by
  unfold sReach at h
  split at h
  · rename_i _ m _ x _ xf _ y _ yf
    cases hm : decide (m = 64) with
    | false => rw [hm] at h; cases h
    | true =>
      rw [hm] at h
      cases h
      refine ⟨.bool false (reachV x xf y yf), ?_, rfl⟩
      show (bif decide (m = 64) then _ else _) = _
      rw [hm]
      rfl
  · cases h

noncomputable def EL1 : Env := (E0.add (one 69 (scalA (specOf sCmp)))).add (one 71 (rowA 4 sReach))
noncomputable def SL1 : STab := addS (oneSym 71 (rowSym 4 sReach)) (addS (oneSym 69 (scalS sCmp)) noS)
theorem soundL1 : Sound EL1 := (sound0.add tab_cmp).add tab_reach
theorem thomL1 : TabHom EL1 SL1 := (TabHom.none.add hom_cmp).add hom_reach
end Go.Ev
end
section
set_option maxRecDepth 100000
namespace Go.Ev
open Go.Proofs Go.RowKit
abbrev setArg (g : SetD) : List SV := [.agg g.sv]
theorem tree_cs (g : SetD) : endT (evalCallS EL1 SL1 1000 33 (setArg g) SH.empty) = T_cs g.gx g.gxf g.gy g.gyf g.dt g.dtf g.most g.rounds g.sess g.staged g.queue := by kernel_rfl
theorem tree_r9 (g : SetD) : endT (evalCallS EL1 SL1 1000 36 (setArg g) SH.empty) = T_r9 g.gx g.gxf g.gy g.gyf g.dt g.dtf g.most g.rounds g.sess g.staged g.queue := by kernel_rfl
theorem tree_op (o : OpD) : endT (evalCallS EL1 SL1 1000 34 [.agg [.int .i64 false o.k, .int .i64 false o.s, .str false o.b, .int .i64 false o.n]] SH.empty) = T_op o.k o.s o.b o.n := by kernel_rfl
theorem tree_one (o : OpD) : endT (evalCallS EL1 SL1 1000 37 [.agg [.int .i64 false o.k, .int .i64 false o.s, .str false o.b, .int .i64 false o.n]] SH.empty) = T_one o.k o.s o.b o.n := by kernel_rfl

theorem sCs_hom (F : SetD → Int) : ∀ args id, Hom HV (scalS (sCs F) args id) (scalA (specOf (sCs F)) (dens args) id) := scal_hom fun args v h => by
  unfold sCs at h
  split at h
  · cases h; rfl
  · cases h
theorem sOpE_hom (F : OpD → Int) : ∀ args id, Hom HV (scalS (sOpE F) args id) (scalA (specOf (sOpE F)) (dens args) id) := scal_hom fun args v h => by
  unfold sOpE at h
  split at h
  · rename_i l1 k l2 s b l3 n
    cases hb : strOf b with
    | none => rw [hb] at h; cases h
    | some p =>
      obtain ⟨l, t⟩ := p
      rw [hb] at h
      cases h
      have e : dens [.agg [.int .i64 l1 k, .int .i64 l2 s, b, .int .i64 l3 n]] = [.agg #[.int .i64 k, .int .i64 s, .string t, .int .i64 n]] := by simp only [dens, SV.den, strOf_den hb]
      rw [e]
      rfl
  · cases h
theorem sCs_tab {f : FuncId} {F : SetD → Int} (h : ∀ g w, Calls Tryz.prog f (dens (setArg g)).toArray w fun e w' => e = .returned (.int .i64 (F g)) ∧ Below w.heap.size w w') : TabOK Tryz.prog f (scalA (specOf (sCs F))) := scal_tab' fun sargs v hs => by
  unfold sCs at hs
  split at hs
  · rename_i _ a _ af _ b _ bf _ c _ cf _ m _ r _ s _ t _ q
    cases hs
    exact ⟨rfl, rfl, fun w => h ⟨a, af, b, bf, c, cf, m, r, s, t, q⟩ w⟩
  · cases hs
theorem sOpE_tab {f : FuncId} {F : OpD → Int} (h : ∀ o w, Calls Tryz.prog f (dens [.agg [.int .i64 false o.k, .int .i64 false o.s, .str false o.b, .int .i64 false o.n]]).toArray w fun e w' => e = .returned (.int .i64 (F o)) ∧ Below w.heap.size w w') : TabOK Tryz.prog f (scalA (specOf (sOpE F))) := scal_tab' fun sargs v hs => by
  unfold sOpE at hs
  split at hs
  · rename_i l1 k l2 s b l3 n
    cases hb : strOf b with
    | none => rw [hb] at hs; cases hs
    | some p =>
      obtain ⟨l, t⟩ := p
      rw [hb] at hs
      cases hs
      have e : dens [.agg [.int .i64 l1 k, .int .i64 l2 s, b, .int .i64 l3 n]] = [.agg #[.int .i64 k, .int .i64 s, .string t, .int .i64 n]] := by simp only [dens, SV.den, strOf_den hb]
      rw [e]
      exact ⟨rfl, rfl, fun w => h ⟨k, s, t, n⟩ w⟩
  · cases hs
theorem tab_cs : TabOK Tryz.prog 33 (scalA (specOf (sCs csV))) := sCs_tab fun g w => scal_of_tree soundL1 thomL1 1000 (tree_cs g) rfl rfl (resInt_eq (by
  unfold T_cs
  repeat' (first | exact .leaf ⟨_, _, rfl⟩ | refine .node (fun _ => ?_) fun _ => ?_))) w
theorem tab_r9 : TabOK Tryz.prog 36 (scalA (specOf (sCs r9V))) := sCs_tab fun g w => scal_of_tree soundL1 thomL1 1000 (tree_r9 g) rfl rfl (resInt_eq (by
  unfold T_r9
  repeat' (first | exact .leaf ⟨_, _, rfl⟩ | refine .node (fun _ => ?_) fun _ => ?_))) w
theorem tab_op : TabOK Tryz.prog 34 (scalA (specOf (sOpE opV))) := sOpE_tab fun o w => scal_of_tree soundL1 thomL1 1000 (tree_op o) rfl rfl (resInt_eq (by
  unfold T_op
  repeat' (first | exact .leaf ⟨_, _, rfl⟩ | refine .node (fun _ => ?_) fun _ => ?_))) w
theorem tab_one : TabOK Tryz.prog 37 (scalA (specOf (sOpE oneV))) := sOpE_tab fun o w => scal_of_tree soundL1 thomL1 1000 (tree_one o) rfl rfl (resInt_eq (by
  unfold T_one
  repeat' (first | exact .leaf ⟨_, _, rfl⟩ | refine .node (fun _ => ?_) fun _ => ?_))) w
noncomputable def E2 : Env := (((EL1.add (one 33 (scalA (specOf (sCs csV))))).add (one 36 (scalA (specOf (sCs r9V))))).add (one 34 (scalA (specOf (sOpE opV))))).add (one 37 (scalA (specOf (sOpE oneV))))
noncomputable def S2 : STab := addS (oneSym 37 (scalS (sOpE oneV))) (addS (oneSym 34 (scalS (sOpE opV))) (addS (oneSym 36 (scalS (sCs r9V))) (addS (oneSym 33 (scalS (sCs csV))) SL1)))
theorem sound2 : Sound E2 := (((soundL1.add tab_cs).add tab_r9).add tab_op).add tab_one
theorem thom2 : TabHom E2 S2 := (((thomL1.add (sCs_hom csV)).add (sCs_hom r9V)).add (sOpE_hom opV)).add (sOpE_hom oneV)
end Go.Ev
end
section
set_option maxRecDepth 100000
namespace Go.Ev
open Go.Proofs Go.RowKit
noncomputable def ckC : Code := match Tryz.prog.funcs[18]? with | some fn => fn.body.getD .skip | none => .skip
noncomputable def ckF : Func := match Tryz.prog.funcs[18]? with | some fn => fn | none => default
theorem ckF_some : Tryz.prog.funcs[18]? = some ckF := by kernel_rfl
theorem ckC_some : ckF.body = some ckC := by kernel_rfl
theorem ckF_n : ckF.ntmps = 52 := by kernel_rfl
theorem ckC_plans : plansIn ckC = true := by kernel_rfl
noncomputable abbrev ckO (g : SetD) (len : Nat) (k s : Nat → Int) (b : Nat → ByteArray) (n : Nat → Int) : List SObj := [opsO len k s b n, .cells (g.sv ++ [.sl 0 (.c 0) ⟨false, len⟩ 4]) true]
set_option maxRecDepth 100000 in
theorem check_arr (g : SetD) (len : Nat) (k s : Nat → Int) (b : Nat → ByteArray) (n : Nat → Int) {ρ0 : Emb} {w : World} {args' : Array Value} (hro : ∀ i g, ρ0 i = .img g → g.rw = false)
    (wr : WRel ρ0 (mkH [opsO len k s b n]).den w) (ra : VsRel ρ0 (dens [.agg (g.sv ++ [slO len])]) args'.toList) :
    Calls E2.P 18 args' w fun e w' => e = .returned (.int .i64 (checkR csV opV g (opsL len k s b n))) ∧ Below w.heap.size w w' := by
  refine calls_StL ckF_some ckC_some ckF_n (by decide) (by simp) wr ra fun bb st => ?_
  -- the end of each way
  have fin : ∀ (v : Int) (l : Bool) b1 w1, StL ρ0 w 52 [(2, .int .i64 l v)] [] b1 w1 → v = checkR csV opV g (opsL len k s b n) → Leaves E2.P ckF b1.tmps (fun e w' => e = .returned (.int .i64 (checkR csV opV g (opsL len k s b n))) ∧ Below w.heap.size w w') b1.defers .returning w1 := by
    intro v l b1 w1 st hv
    refine StL.finish (vs := [.int .i64 l v]) (fun j => by kernel_rfl) st fun ρ v' rv _ fr => ?_
    have := plainR_eq (v := .int .i64 v) rfl rv
    exact ⟨by rw [this, hv], below_of_ro hro fr⟩
  refine StL.pre sound2 thom2 1000 3 (V := vsel ⟨[1, 2, 4], [0, 2]⟩ ⟨[2], []⟩ ⟨[], []⟩) (T := .node (csV g != 0) (.leaf ⟨.ret, [.int .i64 false (csV g)], []⟩) (.node (decide ((len : Int) > 400)) (.leaf ⟨.ret, [.int .i64 true 6], []⟩)
    (.leaf ⟨.normal, [.ptr 1 (.c 0), .int .i64 true 0, .int .i64 true 0], ckO g len k s b n⟩)))
    (by decide) (vok _ _ _ (by decide) (by decide) (by decide)) ckC_plans (by kernel_rfl) (fun j => by kernel_rfl) st ?_
  refine Holds.node (fun h0 => ?_) fun h0 => Holds.node (fun h1 => ?_) fun h1 => ?_
  · exact .leaf ⟨rfl, fun b1 w1 st => fin _ _ b1 w1 st (by unfold checkR; rw [if_neg (by simpa using h0)])⟩
  · exact .leaf ⟨rfl, fun b1 w1 st => fin _ _ b1 w1 st (by unfold checkR; rw [if_pos (by simpa using h0), if_pos (by rw [opsL_length]; simp at h1; omega)])⟩
  have hcs : csV g = 0 := by simpa using h0
  have hl : len ≤ 400 := by simp at h1; omega
  have hres : checkR csV opV g (opsL len k s b n) = if lensR 0 (opsL len k s b n) = true then 6 else firstE opV (opsL len k s b n) := by
    unfold checkR
    rw [if_pos hcs, if_neg (by rw [opsL_length]; omega)]
  refine .leaf ⟨rfl, fun b1 w1 st => ?_⟩
  show (postC 4 ckC).wp E2.P (bodyPostD E2.P ckF _) b1 w1
  -- the first loop
  refine wp_seqP (by kernel_rfl) ?_
  refine wp_seqP (by kernel_rfl) ?_
  refine StL.piece sound2 thom2 1000 (V := vsel ⟨[1, 2, 4, 21, 22, 23], [0, 1]⟩ ⟨[2], []⟩ ⟨[], []⟩) (T := .leaf ⟨.normal, [.ptr 1 (.c 0), .int .i64 true 0, .int .i64 true 0, slO len, .int .i64 false len, .int .i64 true 0], ckO g len k s b n⟩)
    (by decide) (vok _ _ _ (by decide) (by decide) (by decide)) (by kernel_rfl) (fun j => by kernel_rfl) st ?_
  refine Holds.leaf ⟨rfl, fun b2 w2 st => ?_⟩
  show Code.wp E2.P (seqR (seqL (postC 4 ckC))) _ b2 w2
  refine wp_blockP (by kernel_rfl) ?_
  refine wp_loopP (by kernel_rfl) (fun m x w' => ∃ (i : Nat) (acc : Int), m = len - i ∧ i ≤ len ∧ lensR 0 (opsL len k s b n) = lensR acc ((opsL len k s b n).drop i) ∧
    StL ρ0 w 52 ([1, 2, 4, 21, 22, 23].zip [.ptr 1 (.c 0), .int .i64 true 0, .int .i64 false acc, slO len, .int .i64 false len, .int .i64 false i]) (ckO g len k s b n) x w') ?_ ⟨0, 0, rfl, Nat.zero_le _, by simp, st.conv rfl rfl⟩
  rintro _ b3 w3 ⟨i, acc, rfl, hi, hacc, st⟩
  refine StL.piece sound2 thom2 1000 (V := vsel ⟨[1, 2, 4, 21, 22, 23], [0, 1]⟩ ⟨[2], []⟩ ⟨[1, 2], [0, 1]⟩) (T := .node (decide ((i : Int) < (len : Int))) (.node (decide ((0 : Int) ≤ (i : Int)) && (i : Int).toNat.blt len) (.node (i.blt len)
      (.node (decide (((b i).size : Int) > IntKind.i64.wrap (65536 - acc))) (.leaf ⟨.ret, [.int .i64 true 6], []⟩)
        (.leaf ⟨.normal, [.ptr 1 (.c 0), .int .i64 true 0, .int .i64 false (IntKind.i64.wrap (acc + ((b i).size : Int))), slO len, .int .i64 false len, .int .i64 false (IntKind.i64.wrap ((i : Int) + 1))], ckO g len k s b n⟩)) .fail) .fail)
      (.leaf ⟨.exit 0, [.ptr 1 (.c 0), .int .i64 true 0], ckO g len k s b n⟩))
    (by decide) (vok _ _ _ (by decide) (by decide) (by decide)) (by kernel_rfl) (fun j => by kernel_rfl) st ?_
  refine Holds.node (fun h2 => ?_) fun h2 => ?_
  · have hlt : i < len := by simpa using h2
    have hblt : i.blt len = true := blt_true hlt
    refine Holds.node (fun _ => Holds.node (fun _ => Holds.node (fun h3 => ?_) fun h3 => ?_) fun hf => absurd hf (by rw [hblt]; decide)) fun hf => absurd hf (by simp [hblt])
    · refine .leaf ⟨rfl, fun b4 w4 st => ?_⟩
      refine fin _ _ b4 w4 st ?_
      rw [hres, hacc, opsL_drop hlt]
      simp only [decide_eq_true_eq] at h3
      rw [lensR, if_pos h3, if_pos rfl]
    · refine .leaf ⟨rfl, fun b4 w4 st => ?_⟩
      simp only [decide_eq_false_iff_not] at h3
      refine ⟨len - (i + 1), by omega, i + 1, IntKind.i64.wrap (acc + ((b i).size : Int)), rfl, hlt, ?_, st.conv ?_ rfl⟩
      · rw [hacc, opsL_drop hlt, lensR, if_neg h3]
      · have hw : IntKind.i64.wrap ((i : Int) + 1) = ((i + 1 : Nat) : Int) := wrap64_small (n := i + 1) (by omega)
        simp only [dens, SV.den, hw]
  · have hge : i = len := by simp at h2; omega
    refine .leaf ⟨rfl, fun b4 w4 st => ?_⟩
    have hlen0 : lensR 0 (opsL len k s b n) = false := by
      rw [hacc, hge, List.drop_eq_nil_of_le (by rw [opsL_length]; exact Nat.le_refl _)]
      rfl
    have hres2 : checkR csV opV g (opsL len k s b n) = firstE opV (opsL len k s b n) := by rw [hres, hlen0]; rfl
    show Code.wp E2.P (seqR (postC 4 ckC)) _ b4 w4
    -- the second loop
    refine wp_seqP (by kernel_rfl) ?_
    refine wp_seqP (by kernel_rfl) ?_
    refine StL.piece sound2 thom2 1000 (V := vsel ⟨[1, 2, 40, 41, 42], [0, 1]⟩ ⟨[2], []⟩ ⟨[], []⟩) (T := .leaf ⟨.normal, [.ptr 1 (.c 0), .int .i64 true 0, slO len, .int .i64 false len, .int .i64 true 0], ckO g len k s b n⟩)
      (by decide) (vok _ _ _ (by decide) (by decide) (by decide)) (by kernel_rfl) (fun j => by kernel_rfl) st ?_
    refine Holds.leaf ⟨rfl, fun b5 w5 st => ?_⟩
    show Code.wp E2.P (seqR (seqL (seqR (postC 4 ckC)))) _ b5 w5
    refine wp_blockP (by kernel_rfl) ?_
    refine wp_loopP (by kernel_rfl) (fun m x w' => ∃ i : Nat, m = len - i ∧ i ≤ len ∧ firstE opV (opsL len k s b n) = firstE opV ((opsL len k s b n).drop i) ∧
      StL ρ0 w 52 ([1, 2, 40, 41, 42].zip [.ptr 1 (.c 0), .int .i64 true 0, slO len, .int .i64 false len, .int .i64 false i]) (ckO g len k s b n) x w') ?_ ⟨0, rfl, Nat.zero_le _, by simp, st.conv rfl rfl⟩
    rintro _ b6 w6 ⟨i, rfl, hi, hacc, st⟩
    refine StL.piece sound2 thom2 1000 (V := vsel ⟨[1, 2, 40, 41, 42], [0, 1]⟩ ⟨[2], []⟩ ⟨[1, 2], [0, 1]⟩) (T := .node (decide ((i : Int) < (len : Int))) (.node (decide ((0 : Int) ≤ (i : Int)) && (i : Int).toNat.blt len) (.node (i.blt len)
        (.node (opV ⟨k i, s i, b i, n i⟩ != 0) (.leaf ⟨.ret, [.int .i64 false (opV ⟨k i, s i, b i, n i⟩)], []⟩)
          (.leaf ⟨.normal, [.ptr 1 (.c 0), .int .i64 true 0, slO len, .int .i64 false len, .int .i64 false (IntKind.i64.wrap ((i : Int) + 1))], ckO g len k s b n⟩)) .fail) .fail)
        (.leaf ⟨.exit 2, [.ptr 1 (.c 0), .int .i64 true 0], ckO g len k s b n⟩))
      (by decide) (vok _ _ _ (by decide) (by decide) (by decide)) (by kernel_rfl) (fun j => by kernel_rfl) st ?_
    refine Holds.node (fun h2 => ?_) fun h2 => ?_
    · have hlt : i < len := by simpa using h2
      have hblt : i.blt len = true := blt_true hlt
      refine Holds.node (fun _ => Holds.node (fun _ => Holds.node (fun h3 => ?_) fun h3 => ?_) fun hf => absurd hf (by rw [hblt]; decide)) fun hf => absurd hf (by simp [hblt])
      · refine .leaf ⟨rfl, fun b7 w7 st => ?_⟩
        refine fin _ _ b7 w7 st ?_
        rw [hres2, hacc, opsL_drop hlt, firstE, if_neg (by simpa using h3)]
      · refine .leaf ⟨rfl, fun b7 w7 st => ?_⟩
        refine ⟨len - (i + 1), by omega, i + 1, rfl, hlt, ?_, st.conv ?_ rfl⟩
        · rw [hacc, opsL_drop hlt, firstE, if_pos (by simpa using h3)]
        · have hw : IntKind.i64.wrap ((i : Int) + 1) = ((i + 1 : Nat) : Int) := wrap64_small (n := i + 1) (by omega)
          simp only [dens, SV.den, hw]
    · have hge : i = len := by simp at h2; omega
      refine .leaf ⟨rfl, fun b7 w7 st => ?_⟩
      have hz : checkR csV opV g (opsL len k s b n) = 0 := by
        rw [hres2, hacc, hge, List.drop_eq_nil_of_le (by rw [opsL_length]; exact Nat.le_refl _)]
        rfl
      show Code.wp E2.P (seqR (seqR (postC 4 ckC))) _ b7 w7
      refine StL.piece sound2 thom2 1000 (V := vsel ⟨[], []⟩ ⟨[2], []⟩ ⟨[], []⟩) (T := .leaf ⟨.ret, [.int .i64 true 0], []⟩)
        (by decide) (vok _ _ _ (by decide) (by decide) (by decide)) (by kernel_rfl) (fun j => by kernel_rfl) st ?_
      exact Holds.leaf ⟨rfl, fun b8 w8 st => fin _ _ b8 w8 st hz.symm⟩

theorem check_nil (g : SetD) (w : World) : Calls Tryz.prog 18 (dens [scrS g nilO]).toArray w fun e w' => e = .returned (.int .i64 (checkR csV opV g [])) ∧ Below w.heap.size w w' := by
  have tree : endT (evalCallS E2 S2 1000 18 [scrS g nilO] SH.empty) = .node (csV g != 0) (.leaf (.returned (.int .i64 false (csV g)))) (.leaf (.returned (.int .i64 true 0))) := by kernel_rfl
  refine scal_of_tree sound2 thom2 1000 tree rfl rfl ?_ w
  refine Holds.node (fun h => .leaf ?_) fun h => .leaf ?_
  · unfold checkR
    rw [if_neg (by simpa using h)]
    rfl
  · unfold checkR
    rw [if_pos (by simpa using h)]
    rfl
theorem tab_check : TabOK Tryz.prog 18 (scrA fun g ops => .int .i64 (checkR csV opV g ops)) :=
  scr_tab (fun _ _ => rfl) check_nil fun g len k s b n _ _ _ _hl hro wr ra => check_arr g len k s b n hro wr ra
end Go.Ev
end
section
set_option maxRecDepth 100000
namespace Go.Ev
open Go.Proofs Go.RowKit
noncomputable def rkC : Code := match Tryz.prog.funcs[21]? with | some fn => fn.body.getD .skip | none => .skip
noncomputable def rkF : Func := match Tryz.prog.funcs[21]? with | some fn => fn | none => default
theorem rkF_some : Tryz.prog.funcs[21]? = some rkF := by kernel_rfl
theorem rkC_some : rkF.body = some rkC := by kernel_rfl
theorem rkF_n : rkF.ntmps = 54 := by kernel_rfl
theorem rkC_plans : plansIn rkC = true := by kernel_rfl
noncomputable abbrev rkO (g : SetD) (len : Nat) (k s : Nat → Int) (b : Nat → ByteArray) (n : Nat → Int) : List SObj := [opsO len k s b n, .cells (g.sv ++ [.sl 0 (.c 0) ⟨false, len⟩ 4]) true]
theorem rcheck_arr (g : SetD) (len : Nat) (k s : Nat → Int) (b : Nat → ByteArray) (n : Nat → Int) {ρ0 : Emb} {w : World} {args' : Array Value} (hlen : len ≤ 70368744177664) (hro : ∀ i g, ρ0 i = .img g → g.rw = false)
    (wr : WRel ρ0 (mkH [opsO len k s b n]).den w) (ra : VsRel ρ0 (dens [scrS g (slO len)]) args'.toList) :
    Calls E2.P 21 args' w fun e w' => e = .returned (.int .i64 (checkQ r9V oneV g (opsL len k s b n))) ∧ Below w.heap.size w w' := by
  refine calls_StL rkF_some rkC_some rkF_n (by decide) (by simp) wr ra fun bb st => ?_
  have fin : ∀ (v : Int) (l : Bool) b1 w1, StL ρ0 w 54 [(2, .int .i64 l v)] [] b1 w1 → v = checkQ r9V oneV g (opsL len k s b n) → Leaves E2.P rkF b1.tmps (fun e w' => e = .returned (.int .i64 (checkQ r9V oneV g (opsL len k s b n))) ∧ Below w.heap.size w w') b1.defers .returning w1 := by
    intro v l b1 w1 st hv
    refine StL.finish (vs := [.int .i64 l v]) (fun j => by kernel_rfl) st fun ρ v' rv _ fr => ?_
    have := plainR_eq (v := .int .i64 v) rfl rv
    exact ⟨by rw [this, hv], below_of_ro hro fr⟩
  refine StL.pre sound2 thom2 1000 2 (V := vsel ⟨[1, 2, 4], [0, 2]⟩ ⟨[2], []⟩ ⟨[], []⟩) (T := .node (r9V g != 0) (.leaf ⟨.ret, [.int .i64 false (r9V g)], []⟩) (.leaf ⟨.normal, [.ptr 1 (.c 0), .int .i64 true 0, .int .i64 true 0], rkO g len k s b n⟩))
    (by decide) (vok _ _ _ (by decide) (by decide) (by decide)) rkC_plans (by kernel_rfl) (fun j => by kernel_rfl) st ?_
  refine Holds.node (fun h0 => ?_) fun h0 => ?_
  · exact .leaf ⟨rfl, fun b1 w1 st => fin _ _ b1 w1 st (by unfold checkQ; rw [if_neg (by simpa using h0)])⟩
  have hcs : r9V g = 0 := by simpa using h0
  have hres : checkQ r9V oneV g (opsL len k s b n) = if 400 < len ∨ 65536 < sumW 0 (opsL len k s b n) then 6 else firstE oneV (opsL len k s b n) := by
    unfold checkQ
    rw [if_pos hcs, opsL_length]
  refine .leaf ⟨rfl, fun b1 w1 st => ?_⟩
  show (postC 3 rkC).wp E2.P (bodyPostD E2.P rkF _) b1 w1
  refine wp_seqP (by kernel_rfl) ?_
  refine wp_seqP (by kernel_rfl) ?_
  refine StL.piece sound2 thom2 1000 (V := vsel ⟨[1, 2, 4, 5], [0, 1]⟩ ⟨[2], []⟩ ⟨[], []⟩) (T := .leaf ⟨.normal, [.ptr 1 (.c 0), .int .i64 true 0, .int .i64 true 0, .int .i64 true 0], rkO g len k s b n⟩)
    (by decide) (vok _ _ _ (by decide) (by decide) (by decide)) (by kernel_rfl) (fun j => by kernel_rfl) st ?_
  refine Holds.leaf ⟨rfl, fun b2 w2 st => ?_⟩
  show Code.wp E2.P (seqR (seqL (postC 3 rkC))) _ b2 w2
  refine wp_blockP (by kernel_rfl) ?_
  refine wp_loopP (by kernel_rfl) (fun m x w' => ∃ (i : Nat) (acc : Int), m = len - i ∧ i ≤ len ∧ sumW 0 (opsL len k s b n) = sumW acc ((opsL len k s b n).drop i) ∧
    StL ρ0 w 54 ([1, 2, 4, 5].zip [.ptr 1 (.c 0), .int .i64 true 0, .int .i64 false acc, .int .i64 false i]) (rkO g len k s b n) x w') ?_ ⟨0, 0, rfl, Nat.zero_le _, by simp, st.conv rfl rfl⟩
  rintro _ b3 w3 ⟨i, acc, rfl, hi, hacc, st⟩
  refine StL.piece sound2 thom2 1000 (V := vsel ⟨[1, 2, 4, 5], [0, 1]⟩ ⟨[2], []⟩ ⟨[1, 2, 4], [0, 1]⟩) (T := .node (decide ((i : Int) < (len : Int))) (.node (decide ((0 : Int) ≤ (i : Int)) && (i : Int).toNat.blt len) (.node (i.blt len)
        (.leaf ⟨.normal, [.ptr 1 (.c 0), .int .i64 true 0, .int .i64 false (IntKind.i64.wrap (acc + ((b i).size : Int))), .int .i64 false (IntKind.i64.wrap ((i : Int) + 1))], rkO g len k s b n⟩) .fail) .fail)
      (.leaf ⟨.exit 0, [.ptr 1 (.c 0), .int .i64 true 0, .int .i64 false acc], rkO g len k s b n⟩))
    (by decide) (vok _ _ _ (by decide) (by decide) (by decide)) (by kernel_rfl) (fun j => by kernel_rfl) st ?_
  refine Holds.node (fun h2 => ?_) fun h2 => ?_
  · have hlt : i < len := by simpa using h2
    have hblt : i.blt len = true := blt_true hlt
    refine Holds.node (fun _ => Holds.node (fun _ => ?_) fun hf => absurd hf (by rw [hblt]; decide)) fun hf => absurd hf (by simp [hblt])
    refine .leaf ⟨rfl, fun b4 w4 st => ?_⟩
    refine ⟨len - (i + 1), by omega, i + 1, IntKind.i64.wrap (acc + ((b i).size : Int)), rfl, hlt, ?_, st.conv ?_ rfl⟩
    · rw [hacc, opsL_drop hlt, sumW]
    · simp only [dens, SV.den, wrap_succ hlt hlen]
  · have hge : i = len := by simp at h2; omega
    refine .leaf ⟨rfl, fun b4 w4 st => ?_⟩
    have hsum : sumW 0 (opsL len k s b n) = acc := by
      rw [hacc, hge, List.drop_eq_nil_of_le (by rw [opsL_length]; exact Nat.le_refl _)]
      rfl
    show Code.wp E2.P (seqR (postC 3 rkC)) _ b4 w4
    refine StL.pre sound2 thom2 1000 0 (V := vsel ⟨[1, 2], [0, 1]⟩ ⟨[2], []⟩ ⟨[], []⟩) (T := .node (decide ((len : Int) > 400)) (.leaf ⟨.ret, [.int .i64 true 6], []⟩) (.node (decide (acc > 65536)) (.leaf ⟨.ret, [.int .i64 true 6], []⟩)
        (.leaf ⟨.normal, [.ptr 1 (.c 0), .int .i64 true 0], rkO g len k s b n⟩)))
      (by decide) (vok _ _ _ (by decide) (by decide) (by decide)) (by kernel_rfl) (by kernel_rfl) (fun j => by kernel_rfl) st ?_
    refine Holds.node (fun h3 => ?_) fun h3 => Holds.node (fun h4 => ?_) fun h4 => ?_
    · exact .leaf ⟨rfl, fun b1 w1 st => fin _ _ b1 w1 st (by rw [hres, if_pos (.inl (by simp at h3; omega))])⟩
    · exact .leaf ⟨rfl, fun b1 w1 st => fin _ _ b1 w1 st (by rw [hres, if_pos (.inr (by simp at h4; omega))])⟩
    have hres2 : checkQ r9V oneV g (opsL len k s b n) = firstE oneV (opsL len k s b n) := by
      rw [hres, if_neg (by simp at h3 h4; omega)]
    refine .leaf ⟨rfl, fun b5 w5 st => ?_⟩
    show Code.wp E2.P (postC 1 (seqR (postC 3 rkC))) _ b5 w5
    refine wp_seqP (by kernel_rfl) ?_
    refine wp_seqP (by kernel_rfl) ?_
    refine StL.piece sound2 thom2 1000 (V := vsel ⟨[1, 2, 6], [0, 1]⟩ ⟨[2], []⟩ ⟨[], []⟩) (T := .leaf ⟨.normal, [.ptr 1 (.c 0), .int .i64 true 0, .int .i64 true 0], rkO g len k s b n⟩)
      (by decide) (vok _ _ _ (by decide) (by decide) (by decide)) (by kernel_rfl) (fun j => by kernel_rfl) st ?_
    refine Holds.leaf ⟨rfl, fun b6 w6 st => ?_⟩
    show Code.wp E2.P (seqR (seqL (postC 1 (seqR (postC 3 rkC))))) _ b6 w6
    refine wp_blockP (by kernel_rfl) ?_
    refine wp_loopP (by kernel_rfl) (fun m x w' => ∃ i : Nat, m = len - i ∧ i ≤ len ∧ firstE oneV (opsL len k s b n) = firstE oneV ((opsL len k s b n).drop i) ∧
      StL ρ0 w 54 ([1, 2, 6].zip [.ptr 1 (.c 0), .int .i64 true 0, .int .i64 false i]) (rkO g len k s b n) x w') ?_ ⟨0, rfl, Nat.zero_le _, by simp, st.conv rfl rfl⟩
    clear hge hacc hi
    rintro _ b7 w7 ⟨i, rfl, hi, hacc, st⟩
    refine StL.piece sound2 thom2 1000 (V := vsel ⟨[1, 2, 6], [0, 1]⟩ ⟨[2], []⟩ ⟨[1, 2], [0, 1]⟩) (T := .node (decide ((i : Int) < (len : Int))) (.node (decide ((0 : Int) ≤ (i : Int)) && (i : Int).toNat.blt len) (.node (i.blt len)
        (.node (oneV ⟨k i, s i, b i, n i⟩ != 0) (.leaf ⟨.ret, [.int .i64 false (oneV ⟨k i, s i, b i, n i⟩)], []⟩)
          (.leaf ⟨.normal, [.ptr 1 (.c 0), .int .i64 true 0, .int .i64 false (IntKind.i64.wrap ((i : Int) + 1))], rkO g len k s b n⟩)) .fail) .fail)
        (.leaf ⟨.exit 2, [.ptr 1 (.c 0), .int .i64 true 0], rkO g len k s b n⟩))
      (by decide) (vok _ _ _ (by decide) (by decide) (by decide)) (by kernel_rfl) (fun j => by kernel_rfl) st ?_
    refine Holds.node (fun h5 => ?_) fun h5 => ?_
    · have hlt : i < len := by simpa using h5
      have hblt : i.blt len = true := blt_true hlt
      refine Holds.node (fun _ => Holds.node (fun _ => Holds.node (fun h6 => ?_) fun h6 => ?_) fun hf => absurd hf (by rw [hblt]; decide)) fun hf => absurd hf (by simp [hblt])
      · refine .leaf ⟨rfl, fun b8 w8 st => fin _ _ b8 w8 st ?_⟩
        rw [hres2, hacc, opsL_drop hlt, firstE, if_neg (by simpa using h6)]
      · refine .leaf ⟨rfl, fun b8 w8 st => ⟨len - (i + 1), by omega, i + 1, rfl, hlt, ?_, st.conv ?_ rfl⟩⟩
        · rw [hacc, opsL_drop hlt, firstE, if_pos (by simpa using h6)]
        · simp only [dens, SV.den, wrap_succ hlt hlen]
    · have hge : i = len := by simp at h5; omega
      refine .leaf ⟨rfl, fun b8 w8 st => ?_⟩
      have hz : checkQ r9V oneV g (opsL len k s b n) = 0 := by
        rw [hres2, hacc, hge, List.drop_eq_nil_of_le (by rw [opsL_length]; exact Nat.le_refl _)]
        rfl
      show Code.wp E2.P (seqR (postC 1 (seqR (postC 3 rkC)))) _ b8 w8
      refine StL.piece sound2 thom2 1000 (V := vsel ⟨[], []⟩ ⟨[2], []⟩ ⟨[], []⟩) (T := .leaf ⟨.ret, [.int .i64 true 0], []⟩)
        (by decide) (vok _ _ _ (by decide) (by decide) (by decide)) (by kernel_rfl) (fun j => by kernel_rfl) st ?_
      exact Holds.leaf ⟨rfl, fun b9 w9 st => fin _ _ b9 w9 st hz.symm⟩
theorem rcheck_nil (g : SetD) (w : World) : Calls Tryz.prog 21 (dens [scrS g nilO]).toArray w fun e w' => e = .returned (.int .i64 (checkQ r9V oneV g [])) ∧ Below w.heap.size w w' := by
  have tree : endT (evalCallS E2 S2 1000 21 [scrS g nilO] SH.empty) = .node (r9V g != 0) (.leaf (.returned (.int .i64 false (r9V g)))) (.leaf (.returned (.int .i64 true 0))) := by kernel_rfl
  refine scal_of_tree sound2 thom2 1000 tree rfl rfl ?_ w
  refine Holds.node (fun h => .leaf ?_) fun h => .leaf ?_
  · unfold checkQ
    rw [if_neg (by simpa using h)]
    rfl
  · unfold checkQ
    rw [if_pos (by simpa using h)]
    rfl
theorem tab_rcheck : TabOK Tryz.prog 21 (scrA fun g ops => .int .i64 (checkQ r9V oneV g ops)) :=
  scr_tab (fun _ _ => rfl) rcheck_nil fun g len k s b n _ _ _ hl hro wr ra => rcheck_arr g len k s b n hl hro wr ra
end Go.Ev
end
section
set_option maxRecDepth 100000
namespace Go.Ev
open Go.Proofs Go.RowKit
/-! bagatellelaw10.long -/
noncomputable def lgC : Code := match Tryz.prog.funcs[5]? with | some fn => fn.body.getD .skip | none => .skip
noncomputable def lgF : Func := match Tryz.prog.funcs[5]? with | some fn => fn | none => default
theorem lgF_some : Tryz.prog.funcs[5]? = some lgF := by kernel_rfl
theorem lgC_some : lgF.body = some lgC := by kernel_rfl
theorem lgF_n : lgF.ntmps = 41 := by kernel_rfl
theorem lgC_plans : plansIn lgC = true := by kernel_rfl
noncomputable abbrev lgO (g : SetD) (len : Nat) (k s : Nat → Int) (b : Nat → ByteArray) (n : Nat → Int) : List SObj := [opsO len k s b n, .cells (g.sv ++ [.sl 0 (.c 0) ⟨false, len⟩ 4]) true]
theorem long_arr (g : SetD) (len : Nat) (k s : Nat → Int) (b : Nat → ByteArray) (n : Nat → Int) {ρ0 : Emb} {w : World} {args' : Array Value} (hlen : len ≤ 70368744177664) (hro : ∀ i g, ρ0 i = .img g → g.rw = false)
    (wr : WRel ρ0 (mkH [opsO len k s b n]).den w) (ra : VsRel ρ0 (dens [scrS g (slO len)]) args'.toList) :
    Calls E2.P 5 args' w fun e w' => e = .returned (.bool (longQ (opsL len k s b n))) ∧ Below w.heap.size w w' := by
  refine calls_StL lgF_some lgC_some lgF_n (by decide) (by simp) wr ra fun bb st => ?_
  have fin : ∀ (v l : Bool) b1 w1, StL ρ0 w 41 [(2, .bool l v)] [] b1 w1 → v = longQ (opsL len k s b n) → Leaves E2.P lgF b1.tmps (fun e w' => e = .returned (.bool (longQ (opsL len k s b n))) ∧ Below w.heap.size w w') b1.defers .returning w1 := by
    intro v l b1 w1 st hv
    refine StL.finish (vs := [.bool l v]) (fun j => by kernel_rfl) st fun ρ v' rv _ fr => ?_
    have := plainR_eq (v := .bool v) rfl rv
    exact ⟨by rw [this, hv], below_of_ro hro fr⟩
  refine StL.pre sound2 thom2 1000 1 (V := vsel ⟨[1, 2, 3], [0, 2]⟩ ⟨[2], []⟩ ⟨[], []⟩) (T := .leaf ⟨.normal, [.ptr 1 (.c 0), .bool true false, .int .i64 true 0], lgO g len k s b n⟩)
    (by decide) (vok _ _ _ (by decide) (by decide) (by decide)) lgC_plans (by kernel_rfl) (fun j => by kernel_rfl) st ?_
  refine Holds.leaf ⟨rfl, fun b1 w1 st => ?_⟩
  show (postC 2 lgC).wp E2.P (bodyPostD E2.P lgF _) b1 w1
  refine wp_seqP (by kernel_rfl) ?_
  refine wp_seqP (by kernel_rfl) ?_
  refine StL.piece sound2 thom2 1000 (V := vsel ⟨[1, 2, 3, 4], [0, 1]⟩ ⟨[2], []⟩ ⟨[], []⟩) (T := .leaf ⟨.normal, [.ptr 1 (.c 0), .bool true false, .int .i64 true 0, .int .i64 true 0], lgO g len k s b n⟩)
    (by decide) (vok _ _ _ (by decide) (by decide) (by decide)) (by kernel_rfl) (fun j => by kernel_rfl) st ?_
  refine Holds.leaf ⟨rfl, fun b2 w2 st => ?_⟩
  show Code.wp E2.P (seqR (seqL (postC 2 lgC))) _ b2 w2
  refine wp_blockP (by kernel_rfl) ?_
  refine wp_loopP (by kernel_rfl) (fun m x w' => ∃ (i : Nat) (acc : Int), m = len - i ∧ i ≤ len ∧ sumW 0 (opsL len k s b n) = sumW acc ((opsL len k s b n).drop i) ∧
    StL ρ0 w 41 ([1, 2, 3, 4].zip [.ptr 1 (.c 0), .bool true false, .int .i64 false acc, .int .i64 false i]) (lgO g len k s b n) x w') ?_ ⟨0, 0, rfl, Nat.zero_le _, by simp, st.conv rfl rfl⟩
  rintro _ b3 w3 ⟨i, acc, rfl, hi, hacc, st⟩
  refine StL.piece sound2 thom2 1000 (V := vsel ⟨[1, 2, 3, 4], [0, 1]⟩ ⟨[2], []⟩ ⟨[1, 2, 3], [0, 1]⟩) (T := .node (decide ((i : Int) < (len : Int))) (.node (decide ((0 : Int) ≤ (i : Int)) && (i : Int).toNat.blt len) (.node (i.blt len)
        (.leaf ⟨.normal, [.ptr 1 (.c 0), .bool true false, .int .i64 false (IntKind.i64.wrap (acc + ((b i).size : Int))), .int .i64 false (IntKind.i64.wrap ((i : Int) + 1))], lgO g len k s b n⟩) .fail) .fail)
      (.leaf ⟨.exit 0, [.ptr 1 (.c 0), .bool true false, .int .i64 false acc], lgO g len k s b n⟩))
    (by decide) (vok _ _ _ (by decide) (by decide) (by decide)) (by kernel_rfl) (fun j => by kernel_rfl) st ?_
  refine Holds.node (fun h2 => ?_) fun h2 => ?_
  · have hlt : i < len := by simpa using h2
    have hblt : i.blt len = true := blt_true hlt
    refine Holds.node (fun _ => Holds.node (fun _ => ?_) fun hf => absurd hf (by rw [hblt]; decide)) fun hf => absurd hf (by simp [hblt])
    refine .leaf ⟨rfl, fun b4 w4 st => ?_⟩
    refine ⟨len - (i + 1), by omega, i + 1, IntKind.i64.wrap (acc + ((b i).size : Int)), rfl, hlt, ?_, st.conv ?_ rfl⟩
    · rw [hacc, opsL_drop hlt, sumW]
    · simp only [dens, SV.den, wrap_succ hlt hlen]
  · have hge : i = len := by simp at h2; omega
    refine .leaf ⟨rfl, fun b4 w4 st => ?_⟩
    have hsum : sumW 0 (opsL len k s b n) = acc := by
      rw [hacc, hge, List.drop_eq_nil_of_le (by rw [opsL_length]; exact Nat.le_refl _)]
      rfl
    have hq : longQ (opsL len k s b n) = decide ((60 < len ∨ 3000 < acc) ∧ len ≤ 400 ∨ 450 < len) := by unfold longQ; rw [opsL_length, hsum]
    show Code.wp E2.P (seqR (postC 2 lgC)) _ b4 w4
    refine StL.piece sound2 thom2 1000 (V := vsel ⟨[], []⟩ ⟨[2], []⟩ ⟨[], []⟩) (T := .node (decide ((len : Int) > 60))
        (.node (decide ((len : Int) ≤ 400)) (.leaf ⟨.ret, [.bool true true], []⟩) (.leaf ⟨.ret, [.bool false (decide ((len : Int) > 450))], []⟩))
        (.node (decide (acc > 3000)) (.node (decide ((len : Int) ≤ 400)) (.leaf ⟨.ret, [.bool true true], []⟩) (.leaf ⟨.ret, [.bool false (decide ((len : Int) > 450))], []⟩))
          (.leaf ⟨.ret, [.bool false (decide ((len : Int) > 450))], []⟩)))
      (by decide) (vok _ _ _ (by decide) (by decide) (by decide)) (by kernel_rfl) (fun j => by kernel_rfl) st ?_
    refine Holds.node (fun h3 => Holds.node (fun h4 => ?_) fun h4 => ?_) fun h3 => Holds.node (fun h4 => Holds.node (fun h5 => ?_) fun h5 => ?_) fun h4 => ?_
    all_goals
      refine .leaf ⟨rfl, fun b9 w9 st => fin _ _ b9 w9 st ?_⟩
      rw [hq]
      simp only [decide_eq_true_eq, decide_eq_false_iff_not] at *
      first
        | (symm; rw [decide_eq_true_eq]; omega)
        | (rw [decide_eq_decide]; omega)
theorem long_nil (g : SetD) (w : World) : Calls Tryz.prog 5 (dens [scrS g nilO]).toArray w fun e w' => e = .returned (.bool (longQ [])) ∧ Below w.heap.size w w' := by
  have tree : endT (evalCallS E2 S2 1000 5 [scrS g nilO] SH.empty) = .leaf (.returned (.bool true false)) := by kernel_rfl
  exact scal_of_tree sound2 thom2 1000 tree rfl rfl (Holds.leaf rfl) w
theorem tab_long : TabOK Tryz.prog 5 (scrA fun _ ops => .bool (longQ ops)) :=
  scr_tab (fun _ _ => rfl) long_nil fun g len k s b n _ _ _ hl hro wr ra => long_arr g len k s b n hl hro wr ra
end Go.Ev
end
section
set_option maxRecDepth 100000
namespace Go.Ev
open Go.Proofs Go.RowKit
/-! bagatelleref10.SameScript -/
noncomputable def rsC : Code := match Tryz.prog.funcs[11]? with | some fn => fn.body.getD .skip | none => .skip
noncomputable def rsF : Func := match Tryz.prog.funcs[11]? with | some fn => fn | none => default
theorem rsF_some : Tryz.prog.funcs[11]? = some rsF := by kernel_rfl
theorem rsC_some : rsF.body = some rsC := by kernel_rfl
theorem rsF_n : rsF.ntmps = 38 := by kernel_rfl
theorem rsC_plans : plansIn rsC = true := by kernel_rfl
theorem rs_fin {ρ0 : Emb} {w : World} (hro : ∀ i g, ρ0 i = .img g → g.rw = false) {u : Bool} (v l : Bool) (b1 : Act) (w1 : World) (st : StL ρ0 w 38 [(4, .bool l v)] [] b1 w1) (hv : v = u) :
    Leaves E2.P rsF b1.tmps (fun e w' => e = .returned (.bool u) ∧ Below w.heap.size w w') b1.defers .returning w1 := by
  refine StL.finish (vs := [.bool l v]) (fun j => by kernel_rfl) st fun ρ v' rv _ fr => ?_
  have := plainR_eq (v := .bool v) rfl rv
  exact ⟨by rw [this, hv], below_of_ro hro fr⟩
noncomputable abbrev rsO (g : SetD) (len : Nat) (k s : Nat → Int) (b : Nat → ByteArray) (n : Nat → Int) (g' : SetD) (len' : Nat) (k' s' : Nat → Int) (b' : Nat → ByteArray) (n' : Nat → Int) : List SObj := [opsO len k s b n, opsO len' k' s' b' n', .cells (g.sv ++ [slP 0 len]) true, .cells (g'.sv ++ [slP 1 len']) true]
theorem rs_00 (g g' : SetD)  (ρ0 : Emb) (w : World) (args' : Array Value)  (hro : ∀ i g, ρ0 i = .img g → g.rw = false) (wr : WRel ρ0 (mkH []).den w) (ra : VsRel ρ0 (dens [scrS g nilO, scrS g' nilO]) (Array.toList args')) :
    Calls E2.P 11 args' w fun e w' => e = .returned (.bool (sameS g [] g' [])) ∧ Below w.heap.size w w' := by
  refine calls_StL rsF_some rsC_some rsF_n (by decide) (by simp) wr ra fun bb st => ?_
  refine StL.piece sound2 thom2 1000 (V := vsel ⟨[], []⟩ ⟨[4], []⟩ ⟨[], []⟩) (T := .node (!(g.gx == g'.gx && (g.gxf == g'.gxf && (g.gy == g'.gy && (g.gyf == g'.gyf && (g.dt == g'.dt && (g.dtf == g'.dtf && (g.most == g'.most && (g.rounds == g'.rounds && (g.sess == g'.sess && (g.staged == g'.staged && (g.queue == g'.queue && true)))))))))))) (.leaf ⟨.ret, [.bool true false], []⟩) (.leaf ⟨.ret, [.bool true true], []⟩))
    (by decide) (vok _ _ _ (by decide) (by decide) (by decide)) rsC_plans (fun j => by kernel_rfl) st ?_
  refine Holds.node (fun h0 => Holds.leaf ⟨rfl, fun b1 w1 st => rs_fin hro _ _ b1 w1 st (by rw [sameS, show eqSet g g' = false from by rw [Bool.not_eq_true'] at h0; exact h0, Bool.false_and])⟩) fun h0 => ?_
  have hE : eqSet g g' = true := by rw [Bool.not_eq_false'] at h0; exact h0
  rw [sameS, hE, Bool.true_and]
  exact Holds.leaf ⟨rfl, fun b1 w1 st => rs_fin hro _ _ b1 w1 st rfl⟩
theorem rs_01 (g g' : SetD) (len : Nat) (k s : Nat → Int) (b : Nat → ByteArray) (n : Nat → Int) (ρ0 : Emb) (w : World) (args' : Array Value) (hlen : len ≤ 70368744177664) (hro : ∀ i g, ρ0 i = .img g → g.rw = false) (wr : WRel ρ0 (mkH [opsO len k s b n]).den w) (ra : VsRel ρ0 (dens [scrS g nilO, scrS g' (slO len)]) (Array.toList args')) :
    Calls E2.P 11 args' w fun e w' => e = .returned (.bool (sameS g [] g' (opsL len k s b n))) ∧ Below w.heap.size w w' := by
  refine calls_StL rsF_some rsC_some rsF_n (by decide) (by simp) wr ra fun bb st => ?_
  refine StL.piece sound2 thom2 1000 (V := vsel ⟨[], []⟩ ⟨[4], []⟩ ⟨[], []⟩) (T := .node (!(g.gx == g'.gx && (g.gxf == g'.gxf && (g.gy == g'.gy && (g.gyf == g'.gyf && (g.dt == g'.dt && (g.dtf == g'.dtf && (g.most == g'.most && (g.rounds == g'.rounds && (g.sess == g'.sess && (g.staged == g'.staged && (g.queue == g'.queue && true)))))))))))) (.leaf ⟨.ret, [.bool true false], []⟩) (.node ((0 : Int) != (len : Int)) (.leaf ⟨.ret, [.bool true false], []⟩) (.leaf ⟨.ret, [.bool true true], []⟩)))
    (by decide) (vok _ _ _ (by decide) (by decide) (by decide)) rsC_plans (fun j => by kernel_rfl) st ?_
  refine Holds.node (fun h0 => Holds.leaf ⟨rfl, fun b1 w1 st => rs_fin hro _ _ b1 w1 st (by rw [sameS, show eqSet g g' = false from by rw [Bool.not_eq_true'] at h0; exact h0, Bool.false_and])⟩) fun h0 => ?_
  have hE : eqSet g g' = true := by rw [Bool.not_eq_false'] at h0; exact h0
  rw [sameS, hE, Bool.true_and]
  refine Holds.node (fun h1 => Holds.leaf ⟨rfl, fun b1 w1 st => rs_fin hro _ _ b1 w1 st ?_⟩) fun h1 => Holds.leaf ⟨rfl, fun b1 w1 st => rs_fin hro _ _ b1 w1 st ?_⟩
  · rw [sameL_length]
    rw [opsL_length]
    simp at h1 ⊢
    omega
  · have : len = 0 := by simp at h1; omega
    subst this
    rfl
theorem rs_10 (g g' : SetD) (len : Nat) (k s : Nat → Int) (b : Nat → ByteArray) (n : Nat → Int) (ρ0 : Emb) (w : World) (args' : Array Value) (hlen : len ≤ 70368744177664) (hro : ∀ i g, ρ0 i = .img g → g.rw = false) (wr : WRel ρ0 (mkH [opsO len k s b n]).den w) (ra : VsRel ρ0 (dens [scrS g (slO len), scrS g' nilO]) (Array.toList args')) :
    Calls E2.P 11 args' w fun e w' => e = .returned (.bool (sameS g (opsL len k s b n) g' [])) ∧ Below w.heap.size w w' := by
  refine calls_StL rsF_some rsC_some rsF_n (by decide) (by simp) wr ra fun bb st => ?_
  refine StL.piece sound2 thom2 1000 (V := vsel ⟨[], []⟩ ⟨[4], []⟩ ⟨[], []⟩) (T := .node (!(g.gx == g'.gx && (g.gxf == g'.gxf && (g.gy == g'.gy && (g.gyf == g'.gyf && (g.dt == g'.dt && (g.dtf == g'.dtf && (g.most == g'.most && (g.rounds == g'.rounds && (g.sess == g'.sess && (g.staged == g'.staged && (g.queue == g'.queue && true)))))))))))) (.leaf ⟨.ret, [.bool true false], []⟩) (.node ((len : Int) != (0 : Int)) (.leaf ⟨.ret, [.bool true false], []⟩) (.node (decide ((0 : Int) < (len : Int))) (.node (decide ((0 : Int) ≤ (0 : Int)) && (0 : Int).toNat.blt len) (.node (Nat.blt 0 len) .fail .fail) .fail) (.leaf ⟨.ret, [.bool true true], []⟩))))
    (by decide) (vok _ _ _ (by decide) (by decide) (by decide)) rsC_plans (fun j => by kernel_rfl) st ?_
  refine Holds.node (fun h0 => Holds.leaf ⟨rfl, fun b1 w1 st => rs_fin hro _ _ b1 w1 st (by rw [sameS, show eqSet g g' = false from by rw [Bool.not_eq_true'] at h0; exact h0, Bool.false_and])⟩) fun h0 => ?_
  have hE : eqSet g g' = true := by rw [Bool.not_eq_false'] at h0; exact h0
  rw [sameS, hE, Bool.true_and]
  refine Holds.node (fun h1 => Holds.leaf ⟨rfl, fun b1 w1 st => rs_fin hro _ _ b1 w1 st ?_⟩) fun h1 => Holds.node (fun h2 => absurd h2 ?_) fun h2 => Holds.leaf ⟨rfl, fun b1 w1 st => rs_fin hro _ _ b1 w1 st ?_⟩
  · rw [sameL_length]
    rw [opsL_length]
    simp at h1 ⊢
    omega
  · have : len = 0 := by simp at h1; omega
    subst this
    decide
  · have : len = 0 := by simp at h1; omega
    subst this
    rfl
theorem rs_11 (g g' : SetD) (len : Nat) (k s : Nat → Int) (b : Nat → ByteArray) (n : Nat → Int) (len' : Nat) (k' s' : Nat → Int) (b' : Nat → ByteArray) (n' : Nat → Int) (ρ0 : Emb) (w : World) (args' : Array Value) (hlen : len ≤ 70368744177664) (hlen' : len' ≤ 70368744177664) (hro : ∀ i g, ρ0 i = .img g → g.rw = false) (wr : WRel ρ0 (mkH [opsO len k s b n, opsO len' k' s' b' n']).den w) (ra : VsRel ρ0 (dens [scrS g (slP 0 len), scrS g' (slP 1 len')]) (Array.toList args')) :
    Calls E2.P 11 args' w fun e w' => e = .returned (.bool (sameS g (opsL len k s b n) g' (opsL len' k' s' b' n'))) ∧ Below w.heap.size w w' := by
  refine calls_StL rsF_some rsC_some rsF_n (by decide) (by simp) wr ra fun bb st => ?_
  refine StL.pre sound2 thom2 1000 1 (V := vsel ⟨[2, 3, 4], [0, 1, 3, 4]⟩ ⟨[4], []⟩ ⟨[], []⟩) (T := .node (!(g.gx == g'.gx && (g.gxf == g'.gxf && (g.gy == g'.gy && (g.gyf == g'.gyf && (g.dt == g'.dt && (g.dtf == g'.dtf && (g.most == g'.most && (g.rounds == g'.rounds && (g.sess == g'.sess && (g.staged == g'.staged && (g.queue == g'.queue && true)))))))))))) (.leaf ⟨.ret, [.bool true false], []⟩) (.node ((len : Int) != (len' : Int)) (.leaf ⟨.ret, [.bool true false], []⟩)
      (.leaf ⟨.normal, [.ptr 2 (.c 0), .ptr 3 (.c 0), .bool true false], rsO g len k s b n g' len' k' s' b' n'⟩)))
    (by decide) (vok _ _ _ (by decide) (by decide) (by decide)) rsC_plans (by kernel_rfl) (fun j => by kernel_rfl) st ?_
  refine Holds.node (fun h0 => Holds.leaf ⟨rfl, fun b1 w1 st => rs_fin hro _ _ b1 w1 st (by rw [sameS, show eqSet g g' = false from by rw [Bool.not_eq_true'] at h0; exact h0, Bool.false_and])⟩) fun h0 => ?_
  have hE : eqSet g g' = true := by rw [Bool.not_eq_false'] at h0; exact h0
  rw [sameS, hE, Bool.true_and]
  refine Holds.node (fun h1 => ?_) fun h1 => ?_
  · refine Holds.leaf ⟨rfl, fun b1 w1 st => rs_fin hro _ _ b1 w1 st ?_⟩
    rw [sameL_length]
    rw [opsL_length, opsL_length]
    simp at h1
    omega
  have heq : len' = len := by simp at h1; omega
  subst heq
  refine Holds.leaf ⟨rfl, fun b1 w1 st => ?_⟩
  show (postC 2 rsC).wp E2.P (bodyPostD E2.P rsF _) b1 w1
  refine wp_seqP (by kernel_rfl) ?_
  refine wp_seqP (by kernel_rfl) ?_
  refine StL.piece sound2 thom2 1000 (V := vsel ⟨[2, 3, 4, 5], [0, 1, 2, 3]⟩ ⟨[4], []⟩ ⟨[], []⟩) (T := .leaf ⟨.normal, [.ptr 2 (.c 0), .ptr 3 (.c 0), .bool true false, .int .i64 true 0], rsO g len' k s b n g' len' k' s' b' n'⟩)
    (by decide) (vok _ _ _ (by decide) (by decide) (by decide)) (by kernel_rfl) (fun j => by kernel_rfl) st ?_
  refine Holds.leaf ⟨rfl, fun b2 w2 st => ?_⟩
  show Code.wp E2.P (seqR (seqL (postC 2 rsC))) _ b2 w2
  refine wp_blockP (by kernel_rfl) ?_
  refine wp_loopP (by kernel_rfl) (fun m x w' => ∃ (i : Nat), m = len' - i ∧ i ≤ len' ∧ sameL (opsL len' k s b n) (opsL len' k' s' b' n') = sameL ((opsL len' k s b n).drop i) ((opsL len' k' s' b' n').drop i) ∧
    StL ρ0 w 38 ([2, 3, 4, 5].zip [.ptr 2 (.c 0), .ptr 3 (.c 0), .bool true false, .int .i64 false i]) (rsO g len' k s b n g' len' k' s' b' n') x w') ?_ ⟨0, rfl, Nat.zero_le _, by simp, st.conv rfl rfl⟩
  rintro _ b3 w3 ⟨i, rfl, hi, hacc, st⟩
  refine StL.piece sound2 thom2 1000 (V := vsel ⟨[2, 3, 4, 5], [0, 1, 2, 3]⟩ ⟨[4], []⟩ ⟨[], []⟩) (T := .node (decide ((i : Int) < (len' : Int))) (.node (decide ((0 : Int) ≤ (i : Int)) && (i : Int).toNat.blt len') (.node (i.blt len') (.node (decide ((0 : Int) ≤ (i : Int)) && (i : Int).toNat.blt len') (.node (i.blt len')
        (.node (!(k i == k' i && (s i == s' i && (b i == b' i && (n i == n' i && true))))) (.leaf ⟨.ret, [.bool true false], []⟩)
          (.leaf ⟨.normal, [.ptr 2 (.c 0), .ptr 3 (.c 0), .bool true false, .int .i64 false (IntKind.i64.wrap ((i : Int) + 1))], rsO g len' k s b n g' len' k' s' b' n'⟩)) .fail) .fail) .fail) .fail)
      (.leaf ⟨.exit 0, [], []⟩))
    (by decide) (vok _ _ _ (by decide) (by decide) (by decide)) (by kernel_rfl) (fun j => by kernel_rfl) st ?_
  refine Holds.node (fun h2 => ?_) fun h2 => ?_
  · have hlt : i < len' := by simpa using h2
    have hblt : i.blt len' = true := blt_true hlt
    refine Holds.node (fun _ => Holds.node (fun _ => Holds.node (fun _ => Holds.node (fun _ => Holds.node (fun h3 => ?_) fun h3 => ?_) fun hf => absurd hf (by rw [hblt]; decide)) fun hf => absurd hf (by simp [hblt])) fun hf => absurd hf (by rw [hblt]; decide)) fun hf => absurd hf (by simp [hblt])
    · refine .leaf ⟨rfl, fun b4 w4 st => rs_fin hro _ _ b4 w4 st ?_⟩
      rw [hacc, opsL_drop hlt, opsL_drop hlt, sameL]
      have : eqOp ⟨k i, s i, b i, n i⟩ ⟨k' i, s' i, b' i, n' i⟩ = false := by
        rw [Bool.not_eq_true'] at h3
        exact h3
      rw [this, Bool.false_and]
    · refine .leaf ⟨rfl, fun b4 w4 st => ?_⟩
      refine ⟨len' - (i + 1), by omega, i + 1, rfl, hlt, ?_, st.conv ?_ rfl⟩
      · rw [hacc, opsL_drop hlt, opsL_drop hlt, sameL]
        have : eqOp ⟨k i, s i, b i, n i⟩ ⟨k' i, s' i, b' i, n' i⟩ = true := by
          rw [Bool.not_eq_false'] at h3
          exact h3
        rw [this, Bool.true_and]
      · simp only [dens, SV.den, wrap_succ hlt hlen']
  · have hge : i = len' := by simp at h2; omega
    refine .leaf ⟨rfl, fun b4 w4 st => ?_⟩
    show Code.wp E2.P (seqR (postC 2 rsC)) _ b4 w4
    refine StL.piece sound2 thom2 1000 (V := vsel ⟨[], []⟩ ⟨[4], []⟩ ⟨[], []⟩) (T := .leaf ⟨.ret, [.bool true true], []⟩)
      (by decide) (vok _ _ _ (by decide) (by decide) (by decide)) (by kernel_rfl) (fun j => by kernel_rfl) st ?_
    refine Holds.leaf ⟨rfl, fun b9 w9 st => rs_fin hro _ _ b9 w9 st ?_⟩
    rw [hacc, hge, List.drop_eq_nil_of_le (by rw [opsL_length]; exact Nat.le_refl _), List.drop_eq_nil_of_le (by rw [opsL_length]; exact Nat.le_refl _)]
    rfl
theorem tab_rs : TabOK Tryz.prog 11 (scr2A fun g ops g2 ops2 => .bool (sameS g ops g2 ops2)) :=
  scr2_tab (fun _ _ _ _ => rfl) (fun g g2 ρ w args' => rs_00 g g2 ρ w args') (fun g g2 len k s b n ρ w args' => rs_01 g g2 len k s b n ρ w args') (fun g g2 len k s b n ρ w args' => rs_10 g g2 len k s b n ρ w args') fun g g2 len k s b n len' k' s' b' n' ρ w args' => rs_11 g g2 len k s b n len' k' s' b' n' ρ w args'
end Go.Ev
end
section
set_option maxRecDepth 100000
namespace Go.Ev
open Go.Proofs Go.RowKit
/-! The table for the laws. -/
def sAw : List SV → Option SV
  | [] => some (.bool true true)
  | _ :: _ => none
theorem sAw_hom : ∀ args id, Hom HV (scalS sAw args id) (scalA (specOf sAw) (dens args) id) := scal_hom fun args v h => by
  unfold sAw at h
  split at h
  · cases h; rfl
  · cases h
theorem tab_awake : TabOK Tryz.prog 6 (scalA (specOf sAw)) := scal_tab' fun sargs v hs => by
  unfold sAw at hs
  split at hs
  · cases hs
    exact ⟨rfl, rfl, fun w => awake_ok w⟩
  · cases hs
noncomputable def E4 : Env := ((((E2.add (one 6 (scalA (specOf sAw)))).add (one 5 (scrA fun _ ops => .bool (longQ ops)))).add (one 18 (scrA fun g ops => .int .i64 (checkR csV opV g ops)))).add
  (one 21 (scrA fun g ops => .int .i64 (checkQ r9V oneV g ops)))).add (one 11 (scr2A fun g ops g2 ops2 => .bool (sameS g ops g2 ops2)))
noncomputable def S4 : STab := addS (oneSym 11 (scr2Sym fun g ops g2 ops2 => .bool false (sameS g ops g2 ops2))) (addS (oneSym 21 (scrSym fun g ops => .int .i64 false (checkQ r9V oneV g ops))) (addS (oneSym 18 (scrSym fun g ops => .int .i64 false (checkR csV opV g ops)))
  (addS (oneSym 5 (scrSym fun _ ops => .bool false (longQ ops))) (addS (oneSym 6 (scalS sAw)) S2))))
theorem sound4 : Sound E4 := ((((sound2.add tab_awake).add tab_long).add tab_check).add tab_rcheck).add tab_rs
theorem thom4 : TabHom E4 S4 := ((((thom2.add sAw_hom).add (scr_hom fun _ _ => rfl)).add (scr_hom fun _ _ => rfl)).add (scr_hom fun _ _ => rfl)).add (scr2_hom fun _ _ _ _ => rfl)
end Go.Ev
end
section
set_option maxRecDepth 100000
set_option linter.unusedVariables false
set_option linter.unusedSimpArgs false
namespace Go.Ev
open Go.Proofs Go.RowKit
/-! Small helps. -/
theorem Holds.yes {α : Type} {p : α → Prop} {c : Bool} {t f : Tree α} (h : c = true) (k : Holds p t) : Holds p (.node c t f) := Holds.node (fun _ => k) fun hf => by rw [h] at hf; cases hf
theorem Holds.no {α : Type} {p : α → Prop} {c : Bool} {t f : Tree α} (h : c = false) (k : Holds p f) : Holds p (.node c t f) := Holds.node (fun hf => by rw [h] at hf; cases hf) fun _ => k
theorem bleA (x : Nat) : Nat.ble (Nat.div 0 4 + x) x = true := Nat.ble_eq_true_of_le (show 0 + x ≤ x by omega)
theorem capA {x : Nat} (h : x ≤ 450) : (Nat.ble x 70368744177664 && capRoom x 40) = true := by
  rw [Nat.ble_eq_true_of_le (by omega : x ≤ 70368744177664), Bool.true_and]
  exact Nat.ble_eq_true_of_le (by omega)
theorem long450 {l : List OpD} (h : longQ l = false) : l.length ≤ 450 := by
  simp only [longQ, decide_eq_false_iff_not] at h
  omega
theorem bleQ (x : Nat) : Nat.ble (Nat.div 0 4 + x) x = true := Nat.ble_eq_true_of_le (show 0 + x ≤ x by omega)
theorem opsL_zero (k s : Nat → Int) (b : Nat → ByteArray) (n : Nat → Int) : opsL 0 k s b n = [] := rfl
theorem longQ_nil : longQ [] = false := by decide
end Go.Ev
end
section
set_option maxRecDepth 100000
namespace Go.Ev
open Go.Proofs Go.RowKit
/-! slices.IndexFunc at history.Fragment's test; bagatellekit.SameInts -/
noncomputable def ifC : Code := match Tryz.prog.funcs[35]? with | some fn => fn.body.getD .skip | none => .skip
noncomputable def ifF : Func := match Tryz.prog.funcs[35]? with | some fn => fn | none => default
theorem ifF_some : Tryz.prog.funcs[35]? = some ifF := by kernel_rfl
theorem ifC_some : ifF.body = some ifC := by kernel_rfl
theorem ifF_n : ifF.ntmps = 19 := by kernel_rfl
theorem ifC_plans : plansIn ifC = true := by kernel_rfl
noncomputable abbrev fg : SV := .func 20 [] []
theorem if_r0 (n : Nat) (f : Nat → Int) (j : Nat → Value) : (evalS E4 S4 1000 (seqL ifC) (mkA 19 (argL [slI 0 n, fg]) j) (mkH [intsO n f])).mapO (viewD 19 (vselD ⟨[0, 1], [.id 0]⟩ ⟨[4], []⟩ ⟨[], []⟩)) = .leaf ⟨.normal, [slI 0 n, fg], [intsO n f]⟩ := by kernel_rfl
theorem if_r1 (n : Nat) (f : Nat → Int) (j : Nat → Value) : (evalS E4 S4 1000 (seqL (seqL (seqR ifC))) (mkA 19 ([0, 1].zip [slI 0 n, fg]) j) (mkH [intsO n f])).mapO (viewD 19 (vselD ⟨[0, 1, 7, 8], [.id 0]⟩ ⟨[4], []⟩ ⟨[], []⟩)) = .leaf ⟨.normal, [slI 0 n, fg, .int .i64 false n, .int .i64 true 0], [intsO n f]⟩ := by kernel_rfl
theorem if_body (n : Nat) (f : Nat → Int) (i : Nat) (j : Nat → Value) : (evalS E4 S4 1000 (loopB (blockB (seqR (seqL (seqR ifC))))) (mkA 19 ([0, 1, 7, 8].zip [slI 0 n, fg, .int .i64 false n, .int .i64 false i]) j) (mkH [intsO n f])).mapO (viewD 19 (vselD ⟨[0, 1, 7, 8], [.id 0]⟩ ⟨[4], []⟩ ⟨[], []⟩)) =
    .node (decide ((i : Int) < (n : Int))) (.node (decide ((0 : Int) ≤ (i : Int)) && (i : Int).toNat.blt n) (.node (i.blt n)
      (.node (decide (f i < 1)) (.leaf ⟨.ret, [.int .i64 false i], []⟩) (.leaf ⟨.normal, [slI 0 n, fg, .int .i64 false n, .int .i64 false (IntKind.i64.wrap ((i : Int) + 1))], [intsO n f]⟩)) .fail) .fail)
      (.leaf ⟨.exit 0, [], []⟩) := by kernel_rfl
theorem if_fin (j : Nat → Value) : (evalS E4 S4 1000 (seqR (seqR ifC)) (mkA 19 ([].zip []) j) (mkH [])).mapO (viewD 19 (vselD ⟨[], []⟩ ⟨[4], []⟩ ⟨[], []⟩)) = .leaf ⟨.ret, [.int .i64 true (-1)], []⟩ := by kernel_rfl
theorem if_nil (j : Nat → Value) : (evalS E4 S4 1000 ifC (mkA 19 (argL [nilO, fg]) j) (mkH [])).mapO (viewD 19 (vselD ⟨[], []⟩ ⟨[4], []⟩ ⟨[], []⟩)) = .leaf ⟨.ret, [.int .i64 true (-1)], []⟩ := by kernel_rfl
theorem if_end {ρ0 : Emb} {w : World} (hro : ∀ i g, ρ0 i = .img g → g.rw = false) {u : Int} (v : Int) (l : Bool) (b1 : Act) (w1 : World) (st : StL ρ0 w 19 [(4, .int .i64 l v)] [] b1 w1) (hv : v = u) :
    Leaves E4.P ifF b1.tmps (fun e w' => e = .returned (.int .i64 u) ∧ Below w.heap.size w w') b1.defers .returning w1 := by
  refine StL.finish (vs := [.int .i64 l v]) (fun j => by kernel_rfl) st fun ρ v' rv _ fr => ?_
  have := plainR_eq (v := .int .i64 v) rfl rv
  exact ⟨by rw [this, hv], below_of_ro hro fr⟩
theorem tab_if : TabOK Tryz.prog 35 (inA 20 fun l => .int .i64 (lowQ 0 l)) := by
  refine in_tab (fun _ => rfl) (fun ρ w args' hro wr ra => ?_) fun n f ρ w args' hlen hro wr ra => ?_
  · refine calls_StL (E := E4) ifF_some ifC_some ifF_n (by decide) (by simp) wr ra fun bb st => ?_
    refine StL.pieceD sound4 thom4 1000 (by decide) ifC_plans if_nil st ?_
    exact Holds.leaf ⟨rfl, fun b1 w1 st => if_end hro _ _ b1 w1 st rfl⟩
  refine calls_StL (E := E4) ifF_some ifC_some ifF_n (by decide) (by simp) wr ra fun bb st => ?_
  refine wp_seqP (by kernel_rfl) ?_
  refine StL.pieceD sound4 thom4 1000 (by decide) (by kernel_rfl) (if_r0 n f) st ?_
  refine Holds.leaf ⟨rfl, fun b0 w0 st => ?_⟩
  show Code.wp E4.P (seqR ifC) _ b0 w0
  refine wp_seqP (by kernel_rfl) ?_
  refine wp_seqP (by kernel_rfl) ?_
  refine StL.pieceD sound4 thom4 1000 (by decide) (by kernel_rfl) (if_r1 n f) st ?_
  refine Holds.leaf ⟨rfl, fun b2 w2 st => ?_⟩
  show Code.wp E4.P (seqR (seqL (seqR ifC))) _ b2 w2
  refine wp_blockP (by kernel_rfl) ?_
  refine wp_loopP (by kernel_rfl) (fun M x w' => ∃ (i : Nat), M = n - i ∧ i ≤ n ∧ lowQ 0 (intL n f) = lowQ i ((intL n f).drop i) ∧
    StL ρ w 19 ([0, 1, 7, 8].zip [slI 0 n, fg, .int .i64 false n, .int .i64 false i]) [intsO n f] x w') ?_ ⟨0, rfl, Nat.zero_le _, by simp, st.conv rfl rfl⟩
  rintro _ b3 w3 ⟨i, rfl, hi, hacc, st⟩
  refine StL.pieceD sound4 thom4 1000 (by decide) (by kernel_rfl) (if_body n f i) st ?_
  refine Holds.node (fun h2 => ?_) fun h2 => ?_
  · have hlt : i < n := by simpa using h2
    have hblt : i.blt n = true := blt_true hlt
    rw [intL_drop hlt, lowQ] at hacc
    refine Holds.yesB (by simp [hblt]) (Holds.yesB hblt (Holds.node (fun h3 => ?_) fun h3 => ?_))
    · refine .leaf ⟨rfl, fun b4 w4 st => if_end hro _ _ b4 w4 st ?_⟩
      rw [hacc, if_pos (by simpa using h3)]
    · refine .leaf ⟨rfl, fun b4 w4 st => ?_⟩
      refine ⟨n - (i + 1), by omega, i + 1, rfl, hlt, ?_, st.conv ?_ rfl⟩
      · rw [hacc, if_neg (by simpa using h3)]
        rfl
      · simp only [dens, SV.den, wrap_succ hlt hlen]
  · have hge : i = n := by simp at h2; omega
    refine .leaf ⟨rfl, fun b4 w4 st => ?_⟩
    show Code.wp E4.P (seqR (seqR ifC)) _ b4 w4
    refine StL.pieceD sound4 thom4 1000 (by decide) (by kernel_rfl) if_fin st ?_
    refine Holds.leaf ⟨rfl, fun b9 w9 st => if_end hro _ _ b9 w9 st ?_⟩
    rw [hacc, hge, List.drop_eq_nil_of_le (by rw [intL_length]; exact Nat.le_refl _)]
    rfl
end Go.Ev
end
section
set_option maxRecDepth 100000
namespace Go.Ev
open Go.Proofs Go.RowKit
/-! bagatellekit.SameInts -/
noncomputable def siC : Code := match Tryz.prog.funcs[12]? with | some fn => fn.body.getD .skip | none => .skip
noncomputable def siF : Func := match Tryz.prog.funcs[12]? with | some fn => fn | none => default
theorem siF_some : Tryz.prog.funcs[12]? = some siF := by kernel_rfl
theorem siC_some : siF.body = some siC := by kernel_rfl
theorem siF_n : siF.ntmps = 26 := by kernel_rfl
theorem siC_plans : plansIn siC = true := by kernel_rfl
def sameI : List Int → List Int → Bool
  | [], [] => true
  | o :: l, p :: m => o == p && sameI l m
  | _, _ => false
theorem sameI_length : ∀ {l m : List Int}, l.length ≠ m.length → sameI l m = false
  | [], [], h => absurd rfl h
  | [], _ :: _, _ => rfl
  | _ :: _, [], _ => rfl
  | o :: l, p :: m, h => by simp only [sameI, sameI_length (l := l) (m := m) (by simpa using h), Bool.and_false]
theorem sameI_refl : ∀ l : List Int, sameI l l = true
  | [] => rfl
  | o :: l => by rw [sameI, sameI_refl l]; simp
theorem si_end {ρ0 : Emb} {w : World} (hro : ∀ i g, ρ0 i = .img g → g.rw = false) {u : Bool} (v l : Bool) (b1 : Act) (w1 : World) (st : StL ρ0 w 26 [(4, .bool l v)] [] b1 w1) (hv : v = u) :
    Leaves E4.P siF b1.tmps (fun e w' => e = .returned (.bool u) ∧ Below w.heap.size w w') b1.defers .returning w1 := by
  refine StL.finish (vs := [.bool l v]) (fun j => by kernel_rfl) st fun ρ v' rv _ fr => ?_
  have := plainR_eq (v := .bool v) rfl rv
  exact ⟨by rw [this, hv], below_of_ro hro fr⟩
abbrev siV : SExit → VSd := vselD ⟨[], []⟩ ⟨[4], []⟩ ⟨[], []⟩
theorem si_00 (j : Nat → Value) : (evalS E4 S4 1000 siC (mkA 26 (argL [nilO, nilO]) j) (mkH [])).mapO (viewD 26 siV) = .leaf ⟨.ret, [.bool true true], []⟩ := by kernel_rfl
theorem si_01 (n : Nat) (f : Nat → Int) (j : Nat → Value) : (evalS E4 S4 1000 siC (mkA 26 (argL [nilO, slI 0 n]) j) (mkH [intsO n f])).mapO (viewD 26 siV) = .node ((0 : Int) != (n : Int)) (.leaf ⟨.ret, [.bool true false], []⟩) (.leaf ⟨.ret, [.bool true true], []⟩) := by kernel_rfl
theorem si_10 (n : Nat) (f : Nat → Int) (j : Nat → Value) : (evalS E4 S4 1000 siC (mkA 26 (argL [slI 0 n, nilO]) j) (mkH [intsO n f])).mapO (viewD 26 siV) = .node ((n : Int) != (0 : Int)) (.leaf ⟨.ret, [.bool true false], []⟩)
    (.node (decide ((0 : Int) < (n : Int))) (.node (decide ((0 : Int) ≤ (0 : Int)) && (0 : Int).toNat.blt n) (.node (Nat.blt 0 n) .fail .fail) .fail) (.leaf ⟨.ret, [.bool true true], []⟩)) := by kernel_rfl
theorem si_pre (n : Nat) (f : Nat → Int) (n2 : Nat) (f2 : Nat → Int) (j : Nat → Value) : (evalS E4 S4 1000 (preC 2 siC) (mkA 26 (argL [slI 0 n, slI 1 n2]) j) (mkH [intsO n f, intsO n2 f2])).mapO (viewD 26 (vselD ⟨[0, 1], [.id 0, .id 1]⟩ ⟨[4], []⟩ ⟨[], []⟩)) =
    .node ((n : Int) != (n2 : Int)) (.leaf ⟨.ret, [.bool true false], []⟩) (.leaf ⟨.normal, [slI 0 n, slI 1 n2], [intsO n f, intsO n2 f2]⟩) := by kernel_rfl
theorem si_r3 (n : Nat) (f f2 : Nat → Int) (j : Nat → Value) : (evalS E4 S4 1000 (seqL (seqL (postC 2 siC))) (mkA 26 ([0, 1].zip [slI 0 n, slI 1 n]) j) (mkH [intsO n f, intsO n f2])).mapO (viewD 26 (vselD ⟨[0, 1, 5], [.id 0, .id 1]⟩ ⟨[4], []⟩ ⟨[], []⟩)) =
    .leaf ⟨.normal, [slI 0 n, slI 1 n, .int .i64 true 0], [intsO n f, intsO n f2]⟩ := by kernel_rfl
theorem si_body (n : Nat) (f f2 : Nat → Int) (i : Nat) (j : Nat → Value) : (evalS E4 S4 1000 (loopB (blockB (seqR (seqL (postC 2 siC))))) (mkA 26 ([0, 1, 5].zip [slI 0 n, slI 1 n, .int .i64 false i]) j) (mkH [intsO n f, intsO n f2])).mapO (viewD 26 (vselD ⟨[0, 1, 5], [.id 0, .id 1]⟩ ⟨[4], []⟩ ⟨[], []⟩)) =
    .node (decide ((i : Int) < (n : Int))) (.node (decide ((0 : Int) ≤ (i : Int)) && (i : Int).toNat.blt n) (.node (i.blt n) (.node (decide ((0 : Int) ≤ (i : Int)) && (i : Int).toNat.blt n) (.node (i.blt n)
      (.node (f i != f2 i) (.leaf ⟨.ret, [.bool true false], []⟩) (.leaf ⟨.normal, [slI 0 n, slI 1 n, .int .i64 false (IntKind.i64.wrap ((i : Int) + 1))], [intsO n f, intsO n f2]⟩)) .fail) .fail) .fail) .fail)
      (.leaf ⟨.exit 0, [], []⟩) := by kernel_rfl
theorem si_fin (j : Nat → Value) : (evalS E4 S4 1000 (seqR (postC 2 siC)) (mkA 26 ([].zip []) j) (mkH [])).mapO (viewD 26 siV) = .leaf ⟨.ret, [.bool true true], []⟩ := by kernel_rfl
theorem tab_si : TabOK Tryz.prog 12 (in2A fun l l2 => .bool (sameI l l2)) := by
  refine in2_tab (fun _ _ => rfl) (fun ρ w args' hro wr ra => ?_) (fun n f ρ w args' _ hro wr ra => ?_) (fun n f ρ w args' _ hro wr ra => ?_) fun n f n2 f2 ρ w args' hlen _ hro wr ra => ?_
  · refine calls_StL (E := E4) siF_some siC_some siF_n (by decide) (by simp) wr ra fun bb st => ?_
    refine StL.pieceD sound4 thom4 1000 (by decide) siC_plans si_00 st ?_
    exact Holds.leaf ⟨rfl, fun b1 w1 st => si_end hro _ _ b1 w1 st rfl⟩
  · refine calls_StL (E := E4) siF_some siC_some siF_n (by decide) (by simp) wr ra fun bb st => ?_
    refine StL.pieceD sound4 thom4 1000 (by decide) siC_plans (si_01 n f) st ?_
    refine Holds.node (fun h0 => .leaf ⟨rfl, fun b1 w1 st => si_end hro _ _ b1 w1 st ?_⟩) fun h0 => .leaf ⟨rfl, fun b1 w1 st => si_end hro _ _ b1 w1 st ?_⟩
    · rw [sameI_length]
      rw [intL_length]
      simp at h0 ⊢
      omega
    · have : n = 0 := by simp at h0; omega
      subst this
      rfl
  · refine calls_StL (E := E4) siF_some siC_some siF_n (by decide) (by simp) wr ra fun bb st => ?_
    refine StL.pieceD sound4 thom4 1000 (by decide) siC_plans (si_10 n f) st ?_
    refine Holds.node (fun h0 => .leaf ⟨rfl, fun b1 w1 st => si_end hro _ _ b1 w1 st ?_⟩) fun h0 => Holds.node (fun h1 => absurd h1 ?_) fun h1 => .leaf ⟨rfl, fun b1 w1 st => si_end hro _ _ b1 w1 st ?_⟩
    · rw [sameI_length]
      rw [intL_length]
      simp at h0 ⊢
      omega
    · have : n = 0 := by simp at h0; omega
      subst this
      decide
    · have : n = 0 := by simp at h0; omega
      subst this
      rfl
  refine calls_StL (E := E4) siF_some siC_some siF_n (by decide) (by simp) wr ra fun bb st => ?_
  refine StL.preD sound4 thom4 1000 1 (by decide) siC_plans (by kernel_rfl) (si_pre n f n2 f2) st ?_
  refine Holds.node (fun h0 => ?_) fun h0 => ?_
  · refine .leaf ⟨rfl, fun b1 w1 st => si_end hro _ _ b1 w1 st ?_⟩
    rw [sameI_length]
    rw [intL_length, intL_length]
    simp at h0
    omega
  have heq : n2 = n := by simp at h0; omega
  subst heq
  refine .leaf ⟨rfl, fun b1 w1 st => ?_⟩
  show (postC 2 siC).wp E4.P (bodyPostD E4.P siF _) b1 w1
  refine wp_seqP (by kernel_rfl) ?_
  refine wp_seqP (by kernel_rfl) ?_
  refine StL.pieceD sound4 thom4 1000 (by decide) (by kernel_rfl) (si_r3 n2 f f2) st ?_
  refine Holds.leaf ⟨rfl, fun b2 w2 st => ?_⟩
  show Code.wp E4.P (seqR (seqL (postC 2 siC))) _ b2 w2
  refine wp_blockP (by kernel_rfl) ?_
  refine wp_loopP (by kernel_rfl) (fun M x w' => ∃ (i : Nat), M = n2 - i ∧ i ≤ n2 ∧ sameI (intL n2 f) (intL n2 f2) = sameI ((intL n2 f).drop i) ((intL n2 f2).drop i) ∧
    StL ρ w 26 ([0, 1, 5].zip [slI 0 n2, slI 1 n2, .int .i64 false i]) [intsO n2 f, intsO n2 f2] x w') ?_ ⟨0, rfl, Nat.zero_le _, by simp, st.conv rfl rfl⟩
  rintro _ b3 w3 ⟨i, rfl, hi, hacc, st⟩
  refine StL.pieceD sound4 thom4 1000 (by decide) (by kernel_rfl) (si_body n2 f f2 i) st ?_
  refine Holds.node (fun h2 => ?_) fun h2 => ?_
  · have hlt : i < n2 := by simpa using h2
    have hblt : i.blt n2 = true := blt_true hlt
    rw [intL_drop hlt, intL_drop hlt, sameI] at hacc
    refine Holds.yesB (by simp [hblt]) (Holds.yesB hblt (Holds.yesB (by simp [hblt]) (Holds.yesB hblt (Holds.node (fun h3 => ?_) fun h3 => ?_))))
    · refine .leaf ⟨rfl, fun b4 w4 st => si_end hro _ _ b4 w4 st ?_⟩
      have : (f i == f2 i) = false := by simpa using h3
      rw [hacc, this, Bool.false_and]
    · refine .leaf ⟨rfl, fun b4 w4 st => ?_⟩
      have h4 : (f i == f2 i) = true := by simpa using h3
      refine ⟨n2 - (i + 1), by omega, i + 1, rfl, hlt, ?_, st.conv ?_ rfl⟩
      · rw [hacc, h4, Bool.true_and]
      · simp only [dens, SV.den, wrap_succ hlt hlen]
  · have hge : i = n2 := by simp at h2; omega
    refine .leaf ⟨rfl, fun b4 w4 st => ?_⟩
    show Code.wp E4.P (seqR (postC 2 siC)) _ b4 w4
    refine StL.pieceD sound4 thom4 1000 (by decide) (by kernel_rfl) si_fin st ?_
    refine Holds.leaf ⟨rfl, fun b9 w9 st => si_end hro _ _ b9 w9 st ?_⟩
    rw [hacc, hge, List.drop_eq_nil_of_le (by rw [intL_length]; exact Nat.le_refl _), List.drop_eq_nil_of_le (by rw [intL_length]; exact Nat.le_refl _)]
    rfl
end Go.Ev
end
section
set_option maxRecDepth 100000
namespace Go.Ev
open Go.Proofs Go.RowKit
noncomputable def E6 : Env := (E4.add (one 35 (inA 20 fun l => .int .i64 (lowQ 0 l)))).add (one 12 (in2A fun l l2 => .bool (sameI l l2)))
noncomputable def S6 : STab := addS (oneSym 12 (in2Sym fun l l2 => .bool false (sameI l l2))) (addS (oneSym 35 (inSym 20 fun l => .int .i64 false (lowQ 0 l))) S4)
theorem sound6 : Sound E6 := (sound4.add tab_if).add tab_si
theorem thom6 : TabHom E6 S6 := (thom4.add (in_hom fun _ => rfl)).add (in2_hom fun _ _ => rfl)
end Go.Ev
end
section
set_option maxRecDepth 100000
set_option linter.unusedVariables false
namespace Go.Ev
open Go.Proofs Go.RowKit
/-! history.Fragment -/
noncomputable def fgC : Code := match Tryz.prog.funcs[9]? with | some fn => fn.body.getD .skip | none => .skip
noncomputable def fgF : Func := match Tryz.prog.funcs[9]? with | some fn => fn | none => default
theorem fgF_some : Tryz.prog.funcs[9]? = some fgF := by kernel_rfl
theorem fgC_some : fgF.body = some fgC := by kernel_rfl
theorem fgF_n : fgF.ntmps = 84 := by kernel_rfl
theorem fgC_plans : plansIn fgC = true := by kernel_rfl
noncomputable abbrev scB (g : SetD) (o : SV) : SObj := .cells (g.sv ++ [o]) true
noncomputable abbrev zB : SObj := scB zSet nilO
noncomputable abbrev fgB : Code := loopB (blockB (seqR (seqL (postC 5 fgC))))
noncomputable abbrev fgB1 : Code := blockB (seqL (postC 2 fgB))
noncomputable abbrev fgB2 : Code := loopB (blockB (postC 3 fgB1))
noncomputable abbrev zC : SObj := .cells [.int .i64 true 0, .bool true false, .int .i64 true 0, .bool true false, .int .i64 true 0, .bool true false, .int .i64 true 0, .int .i64 true 0, .int .i64 true 0, .int .i64 true 0, .int .i64 true 0, nilO] true
theorem zC_den : zC.den = zB.den := rfl
/-- Where the next piece is cut, as the code says it. -/
noncomputable abbrev ctX (f : Nat → Int) (x c : Nat) : Int := f ((x : Int).tmod (c : Int)).toNat
noncomputable abbrev ctN (f : Nat → Int) (x c : Nat) (t : ByteArray) : Int := bif decide ((t.size : Int) < ctX f x c) then (t.size : Int) else ctX f x c
theorem fg_pre0 (g : SetD) (len : Nat) (k s : Nat → Int) (b : Nat → ByteArray) (n : Nat → Int) (j : Nat → Value) : (evalS E6 S6 1000 (preC 5 fgC) (mkA 84 (argL [scrS g (slO len), nilO]) j) (mkH [opsO len k s b n])).mapO (viewD 84 (vselD ⟨[1, 2, 4, 7, 8], [.id 0, .of 4, .of 7, .of 2]⟩ ⟨[5, 4], [.of 4]⟩ ⟨[], []⟩)) =
    .node ((Nat.div 0 4 + len).ble len) (.node (len.ble 70368744177664) (.node (checkR csV opV g (opsL len k s b n) != 0) (.leaf ⟨.ret, [.int .i64 false (checkR csV opV g (opsL len k s b n)), .ptr 0 (.c 0)], [zC]⟩)
      (.node (decide (lowQ 0 [] ≥ 0)) (.leaf ⟨.ret, [.int .i64 true 3, .ptr 0 (.c 0)], [zC]⟩) (.leaf ⟨.normal, [nilO, .ptr 3 (.c 0), .ptr 1 (.c 0), .ptr 2 (.c 0), .int .i64 true 0], [opsO len k s b n, zC, scB g nilO, scB g (slO len)]⟩))) .fail) .fail := by kernel_rfl
theorem fg_r80 (g : SetD) (len : Nat) (k s : Nat → Int) (b : Nat → ByteArray) (n : Nat → Int) (j : Nat → Value) : (evalS E6 S6 1000 (seqL (seqL (postC 5 fgC))) (mkA 84 ([1, 2, 4, 7, 8].zip [nilO, .ptr 3 (.c 0), .ptr 1 (.c 0), .ptr 2 (.c 0), .int .i64 true 0]) j) (mkH [opsO len k s b n, zC, scB g nilO, scB g (slO len)])).mapO (viewD 84 (vselD ⟨[1, 4, 7, 8, 26, 27, 28], [.of 26, .of 4, .of 7]⟩ ⟨[], []⟩ ⟨[], []⟩)) =
    .leaf ⟨.normal, [nilO, .ptr 1 (.c 0), .ptr 2 (.c 0), .int .i64 true 0, slO len, .int .i64 false len, .int .i64 true 0], [opsO len k s b n, zC, scB g nilO]⟩ := by kernel_rfl
theorem fg_z0 (g : SetD) (j : Nat → Value) : (evalS E6 S6 1000 fgC (mkA 84 (argL [scrS g nilO, nilO]) j) (mkH [])).mapO (viewD 84 (vselD ⟨[], []⟩ ⟨[5, 4], [.of 4]⟩ ⟨[], []⟩)) =
    .node (checkR csV opV g [] != 0) (.leaf ⟨.ret, [.int .i64 false (checkR csV opV g []), .ptr 0 (.c 0)], [zC]⟩) (.node (decide (lowQ 0 [] ≥ 0)) (.leaf ⟨.ret, [.int .i64 true 3, .ptr 0 (.c 0)], [zC]⟩) (.leaf ⟨.ret, [.int .i64 true 0, .ptr 0 (.c 0)], [scB g nilO]⟩)) := by kernel_rfl
theorem fg_pre1 (g : SetD) (len : Nat) (k s : Nat → Int) (b : Nat → ByteArray) (n : Nat → Int) (c : Nat) (f : Nat → Int) (j : Nat → Value) : (evalS E6 S6 1000 (preC 5 fgC) (mkA 84 (argL [scrS g (slO len), slI 1 c]) j) (mkH [opsO len k s b n, intsO c f])).mapO (viewD 84 (vselD ⟨[1, 2, 4, 7, 8], [.id 0, .of 4, .of 7, .id 1, .of 2]⟩ ⟨[5, 4], [.of 4]⟩ ⟨[], []⟩)) =
    .node ((Nat.div 0 4 + len).ble len) (.node (len.ble 70368744177664) (.node (checkR csV opV g (opsL len k s b n) != 0) (.leaf ⟨.ret, [.int .i64 false (checkR csV opV g (opsL len k s b n)), .ptr 0 (.c 0)], [zC]⟩)
      (.node ((Nat.div 0 1 + c).ble c) (.node (c.ble 70368744177664) (.node (decide (lowQ 0 (intL c f) ≥ 0)) (.leaf ⟨.ret, [.int .i64 true 3, .ptr 0 (.c 0)], [zC]⟩) (.leaf ⟨.normal, [slI 3 c, .ptr 4 (.c 0), .ptr 1 (.c 0), .ptr 2 (.c 0), .int .i64 true 0], [opsO len k s b n, zC, scB g nilO, intsO c f, scB g (slO len)]⟩)) .fail) .fail)) .fail) .fail := by kernel_rfl
theorem fg_r81 (g : SetD) (len : Nat) (k s : Nat → Int) (b : Nat → ByteArray) (n : Nat → Int) (c : Nat) (f : Nat → Int) (j : Nat → Value) : (evalS E6 S6 1000 (seqL (seqL (postC 5 fgC))) (mkA 84 ([1, 2, 4, 7, 8].zip [slI 3 c, .ptr 4 (.c 0), .ptr 1 (.c 0), .ptr 2 (.c 0), .int .i64 true 0]) j) (mkH [opsO len k s b n, zC, scB g nilO, intsO c f, scB g (slO len)])).mapO (viewD 84 (vselD ⟨[1, 4, 7, 8, 26, 27, 28], [.of 26, .of 4, .of 7, .of 1]⟩ ⟨[], []⟩ ⟨[], []⟩)) =
    .leaf ⟨.normal, [slI 3 c, .ptr 1 (.c 0), .ptr 2 (.c 0), .int .i64 true 0, slO len, .int .i64 false len, .int .i64 true 0], [opsO len k s b n, zC, scB g nilO, intsO c f]⟩ := by kernel_rfl
theorem fg_z1 (g : SetD) (c : Nat) (f : Nat → Int) (j : Nat → Value) : (evalS E6 S6 1000 fgC (mkA 84 (argL [scrS g nilO, slI 0 c]) j) (mkH [intsO c f])).mapO (viewD 84 (vselD ⟨[], []⟩ ⟨[5, 4], [.of 4]⟩ ⟨[], []⟩)) =
    .node (checkR csV opV g [] != 0) (.leaf ⟨.ret, [.int .i64 false (checkR csV opV g []), .ptr 0 (.c 0)], [zC]⟩) (.node ((Nat.div 0 1 + c).ble c) (.node (c.ble 70368744177664) (.node (decide (lowQ 0 (intL c f) ≥ 0)) (.leaf ⟨.ret, [.int .i64 true 3, .ptr 0 (.c 0)], [zC]⟩) (.leaf ⟨.ret, [.int .i64 true 0, .ptr 0 (.c 0)], [scB g nilO]⟩)) .fail) .fail) := by kernel_rfl
theorem fg_c1_00 (g : SetD) (len : Nat) (k s : Nat → Int) (b : Nat → ByteArray) (n : Nat → Int) (x i : Nat) (j : Nat → Value) : (evalS E6 S6 1000 (preC 2 fgB) (mkA 84 ([1, 4, 7, 8, 26, 27, 28].zip [nilO, .ptr 1 (.c 0), .ptr 2 (.c 0), .int .i64 false (x : Int), slO len, .int .i64 false len, .int .i64 false i]) j) (mkH [opsO len k s b n, zB, scB g (nilO)])).mapO (viewD 84 (vselD ⟨[1, 4, 7, 8, 26, 27, 28], [.of 26, .of 4, .of 7]⟩ ⟨[], []⟩ ⟨[4, 7], [.of 4, .of 7]⟩)) =
    .node (decide ((i : Int) < (len : Int))) (.leaf ⟨.normal, [nilO, .ptr 1 (.c 0), .ptr 2 (.c 0), .int .i64 false (x : Int), slO len, .int .i64 false len, .int .i64 false i], [opsO len k s b n, zB, scB g (nilO)]⟩) (.leaf ⟨.exit 0, [.ptr 0 (.c 0), .ptr 1 (.c 0)], [zB, scB g (nilO)]⟩) := by kernel_rfl
theorem fg_c2_00 (g : SetD) (len : Nat) (k s : Nat → Int) (b : Nat → ByteArray) (n : Nat → Int) (x i : Nat) (j : Nat → Value) : (evalS E6 S6 1000 (preC 3 fgB1) (mkA 84 ([1, 4, 7, 8, 26, 27, 28].zip [nilO, .ptr 1 (.c 0), .ptr 2 (.c 0), .int .i64 false (x : Int), slO len, .int .i64 false len, .int .i64 false i]) j) (mkH [opsO len k s b n, zB, scB g (nilO)])).mapO (viewD 84 (vselD ⟨[1, 4, 7, 8, 26, 27, 28, 10, 11], [.of 26, .of 4, .of 7, .of 10]⟩ ⟨[], []⟩ ⟨[1, 4, 7, 8, 26, 27, 28], [.of 26, .of 4, .of 7, .fld 7 11]⟩)) =
    .node (decide ((0 : Int) ≤ (i : Int)) && (i : Int).toNat.blt len) (.node (i.blt len) (.leaf ⟨.exit 1, [nilO, .ptr 1 (.c 0), .ptr 2 (.c 0), .int .i64 false (x : Int), slO len, .int .i64 false len, .int .i64 false i], [opsO len k s b n, zB, scB g (.sl 3 (.c 0) ⟨true, 1⟩ 4), .cells (opRow ⟨k i, s i, b i, n i⟩ false) true]⟩) .fail) .fail := by kernel_rfl
theorem fg_r19_00 (g : SetD) (len : Nat) (k s : Nat → Int) (b : Nat → ByteArray) (n : Nat → Int) (x i : Nat) (j : Nat → Value) : (evalS E6 S6 1000 (seqR (postC 2 fgB)) (mkA 84 ([1, 4, 7, 8, 26, 27, 28].zip [nilO, .ptr 1 (.c 0), .ptr 2 (.c 0), .int .i64 false (x : Int), slO len, .int .i64 false len, .int .i64 false i]) j) (mkH [opsO len k s b n, zB, scB g (nilO)])).mapO (viewD 84 (vselD ⟨[1, 4, 7, 8, 26, 27, 28], [.of 26, .of 4, .of 7]⟩ ⟨[], []⟩ ⟨[], []⟩)) =
    .leaf ⟨.normal, [nilO, .ptr 1 (.c 0), .ptr 2 (.c 0), .int .i64 false (x : Int), slO len, .int .i64 false len, .int .i64 false (IntKind.i64.wrap ((i : Int) + 1))], [opsO len k s b n, zB, scB g (nilO)]⟩ := by kernel_rfl
theorem fg_c1_01 (g : SetD) (len : Nat) (k s : Nat → Int) (b : Nat → ByteArray) (n : Nat → Int) (x i : Nat) (M : Nat) (K S : Nat → Int) (B : Nat → ByteArray) (N : Nat → Int) (j : Nat → Value) : (evalS E6 S6 1000 (preC 2 fgB) (mkA 84 ([1, 4, 7, 8, 26, 27, 28].zip [nilO, .ptr 1 (.c 0), .ptr 2 (.c 0), .int .i64 false (x : Int), slO len, .int .i64 false len, .int .i64 false i]) j) (mkH [opsO len k s b n, zB, scB g (slA 3 M), outA M K S B N])).mapO (viewD 84 (vselD ⟨[1, 4, 7, 8, 26, 27, 28], [.of 26, .of 4, .of 7, .fld 7 11]⟩ ⟨[], []⟩ ⟨[4, 7], [.of 4, .of 7, .fld 7 11]⟩)) =
    .node (decide ((i : Int) < (len : Int))) (.leaf ⟨.normal, [nilO, .ptr 1 (.c 0), .ptr 2 (.c 0), .int .i64 false (x : Int), slO len, .int .i64 false len, .int .i64 false i], [opsO len k s b n, zB, scB g (slA 3 M), outA M K S B N]⟩) (.leaf ⟨.exit 0, [.ptr 0 (.c 0), .ptr 1 (.c 0)], [zB, scB g (slA 2 M), outA M K S B N]⟩) := by kernel_rfl
theorem fg_c2_01 (g : SetD) (len : Nat) (k s : Nat → Int) (b : Nat → ByteArray) (n : Nat → Int) (x i : Nat) (M : Nat) (K S : Nat → Int) (B : Nat → ByteArray) (N : Nat → Int) (j : Nat → Value) : (evalS E6 S6 1000 (preC 3 fgB1) (mkA 84 ([1, 4, 7, 8, 26, 27, 28].zip [nilO, .ptr 1 (.c 0), .ptr 2 (.c 0), .int .i64 false (x : Int), slO len, .int .i64 false len, .int .i64 false i]) j) (mkH [opsO len k s b n, zB, scB g (slA 3 M), outA M K S B N])).mapO (viewD 84 (vselD ⟨[1, 4, 7, 8, 26, 27, 28, 10, 11], [.of 26, .of 4, .of 7, .fld 7 11, .of 10]⟩ ⟨[], []⟩ ⟨[1, 4, 7, 8, 26, 27, 28], [.of 26, .of 4, .of 7, .fld 7 11]⟩)) =
    .node (decide ((0 : Int) ≤ (i : Int)) && (i : Int).toNat.blt len) (.node (i.blt len) (.node ((M + 1).ble 70368744177664 && capRoom (M + 1) 40) (.node ((Nat.div 0 4 + M).ble M) (.leaf ⟨.exit 1, [nilO, .ptr 1 (.c 0), .ptr 2 (.c 0), .int .i64 false (x : Int), slO len, .int .i64 false len, .int .i64 false i], [opsO len k s b n, zB, scB g (slA 3 (M + 1)), apO M K S B N (opRow ⟨k i, s i, b i, n i⟩ false)]⟩) .fail) .fail) .fail) .fail := by kernel_rfl
theorem fg_r19_01 (g : SetD) (len : Nat) (k s : Nat → Int) (b : Nat → ByteArray) (n : Nat → Int) (x i : Nat) (M : Nat) (K S : Nat → Int) (B : Nat → ByteArray) (N : Nat → Int) (j : Nat → Value) : (evalS E6 S6 1000 (seqR (postC 2 fgB)) (mkA 84 ([1, 4, 7, 8, 26, 27, 28].zip [nilO, .ptr 1 (.c 0), .ptr 2 (.c 0), .int .i64 false (x : Int), slO len, .int .i64 false len, .int .i64 false i]) j) (mkH [opsO len k s b n, zB, scB g (slA 3 M), outA M K S B N])).mapO (viewD 84 (vselD ⟨[1, 4, 7, 8, 26, 27, 28], [.of 26, .of 4, .of 7, .fld 7 11]⟩ ⟨[], []⟩ ⟨[], []⟩)) =
    .leaf ⟨.normal, [nilO, .ptr 1 (.c 0), .ptr 2 (.c 0), .int .i64 false (x : Int), slO len, .int .i64 false len, .int .i64 false (IntKind.i64.wrap ((i : Int) + 1))], [opsO len k s b n, zB, scB g (slA 3 M), outA M K S B N]⟩ := by kernel_rfl
theorem fg_c1_10 (g : SetD) (len : Nat) (k s : Nat → Int) (b : Nat → ByteArray) (n : Nat → Int) (x i : Nat) (c : Nat) (f : Nat → Int) (j : Nat → Value) : (evalS E6 S6 1000 (preC 2 fgB) (mkA 84 ([1, 4, 7, 8, 26, 27, 28].zip [slI 3 c, .ptr 1 (.c 0), .ptr 2 (.c 0), .int .i64 false (x : Int), slO len, .int .i64 false len, .int .i64 false i]) j) (mkH [opsO len k s b n, zB, scB g (nilO), intsO c f])).mapO (viewD 84 (vselD ⟨[1, 4, 7, 8, 26, 27, 28], [.of 26, .of 4, .of 7, .of 1]⟩ ⟨[], []⟩ ⟨[4, 7], [.of 4, .of 7]⟩)) =
    .node (decide ((i : Int) < (len : Int))) (.leaf ⟨.normal, [slI 3 c, .ptr 1 (.c 0), .ptr 2 (.c 0), .int .i64 false (x : Int), slO len, .int .i64 false len, .int .i64 false i], [opsO len k s b n, zB, scB g (nilO), intsO c f]⟩) (.leaf ⟨.exit 0, [.ptr 0 (.c 0), .ptr 1 (.c 0)], [zB, scB g (nilO)]⟩) := by kernel_rfl
theorem fg_c2_10 (g : SetD) (len : Nat) (k s : Nat → Int) (b : Nat → ByteArray) (n : Nat → Int) (x i : Nat) (c : Nat) (f : Nat → Int) (j : Nat → Value) : (evalS E6 S6 1000 (preC 3 fgB1) (mkA 84 ([1, 4, 7, 8, 26, 27, 28].zip [slI 3 c, .ptr 1 (.c 0), .ptr 2 (.c 0), .int .i64 false (x : Int), slO len, .int .i64 false len, .int .i64 false i]) j) (mkH [opsO len k s b n, zB, scB g (nilO), intsO c f])).mapO (viewD 84 (vselD ⟨[1, 4, 7, 8, 26, 27, 28, 10, 11], [.of 26, .of 4, .of 7, .of 1, .of 10]⟩ ⟨[], []⟩ ⟨[1, 4, 7, 8, 26, 27, 28], [.of 26, .of 4, .of 7, .of 1, .fld 7 11]⟩)) =
    .node (decide ((0 : Int) ≤ (i : Int)) && (i : Int).toNat.blt len) (.node (i.blt len) (.node ((c : Int) == 0) (.leaf ⟨.exit 1, [slI 3 c, .ptr 1 (.c 0), .ptr 2 (.c 0), .int .i64 false (x : Int), slO len, .int .i64 false len, .int .i64 false i], [opsO len k s b n, zB, scB g (.sl 4 (.c 0) ⟨true, 1⟩ 4), intsO c f, .cells (opRow ⟨k i, s i, b i, n i⟩ false) true]⟩) (.node ((b i).toList == noBytes.toList) (.leaf ⟨.exit 1, [slI 3 c, .ptr 1 (.c 0), .ptr 2 (.c 0), .int .i64 false (x : Int), slO len, .int .i64 false len, .int .i64 false i], [opsO len k s b n, zB, scB g (.sl 4 (.c 0) ⟨true, 1⟩ 4), intsO c f, .cells (opRow ⟨k i, s i, b i, n i⟩ false) true]⟩) (.leaf ⟨.normal, [slI 3 c, .ptr 1 (.c 0), .ptr 2 (.c 0), .int .i64 false (x : Int), slO len, .int .i64 false len, .int .i64 false i, .ptr 4 (.c 0), .str false (b i)], [opsO len k s b n, zB, scB g (nilO), intsO c f, .cells (opRow ⟨k i, s i, b i, n i⟩ false) true]⟩))) .fail) .fail := by kernel_rfl
theorem fg_r19_10 (g : SetD) (len : Nat) (k s : Nat → Int) (b : Nat → ByteArray) (n : Nat → Int) (x i : Nat) (c : Nat) (f : Nat → Int) (j : Nat → Value) : (evalS E6 S6 1000 (seqR (postC 2 fgB)) (mkA 84 ([1, 4, 7, 8, 26, 27, 28].zip [slI 3 c, .ptr 1 (.c 0), .ptr 2 (.c 0), .int .i64 false (x : Int), slO len, .int .i64 false len, .int .i64 false i]) j) (mkH [opsO len k s b n, zB, scB g (nilO), intsO c f])).mapO (viewD 84 (vselD ⟨[1, 4, 7, 8, 26, 27, 28], [.of 26, .of 4, .of 7, .of 1]⟩ ⟨[], []⟩ ⟨[], []⟩)) =
    .leaf ⟨.normal, [slI 3 c, .ptr 1 (.c 0), .ptr 2 (.c 0), .int .i64 false (x : Int), slO len, .int .i64 false len, .int .i64 false (IntKind.i64.wrap ((i : Int) + 1))], [opsO len k s b n, zB, scB g (nilO), intsO c f]⟩ := by kernel_rfl
theorem fg_c3_10 (g : SetD) (len : Nat) (k s : Nat → Int) (b : Nat → ByteArray) (n : Nat → Int) (x i : Nat) (c : Nat) (f : Nat → Int) (kk ss nn : Int) (bb t : ByteArray) (j : Nat → Value) : (evalS E6 S6 1000 fgB2 (mkA 84 ([1, 4, 7, 8, 26, 27, 28, 10, 11].zip [slI 3 c, .ptr 1 (.c 0), .ptr 2 (.c 0), .int .i64 false (x : Int), slO len, .int .i64 false len, .int .i64 false i, .ptr 4 (.c 0), .str false t]) j) (mkH [opsO len k s b n, zB, scB g (nilO), intsO c f, .cells [.int .i64 false kk, .int .i64 false ss, .str false bb, .int .i64 false nn] true])).mapO (viewD 84 (vselD ⟨[1, 4, 7, 8, 26, 27, 28, 10, 11], [.of 26, .of 4, .of 7, .of 1, .fld 7 11, .of 10]⟩ ⟨[], []⟩ ⟨[1, 4, 7, 8, 26, 27, 28], [.of 26, .of 4, .of 7, .of 1]⟩)) =
    .node (!(t.toList == noBytes.toList)) (.node (decide ((c : Int) = 0)) .fail (.node (decide ((0 : Int) ≤ (x : Int).tmod (c : Int)) && ((x : Int).tmod (c : Int)).toNat.blt c) (.node (((x : Int).tmod (c : Int)).toNat.blt c)
      (.node (decide ((0 : Int) ≤ ctN f x c t) && (ctN f x c t).toNat.ble t.size) (.node (decide ((0 : Int) ≤ ctN f x c t) && (ctN f x c t).toNat.ble t.size) (.leaf ⟨.normal, [slI 3 c, .ptr 1 (.c 0), .ptr 2 (.c 0), .int .i64 false (IntKind.i64.wrap ((x : Int) + 1)), slO len, .int .i64 false len, .int .i64 false i, .ptr 5 (.c 0), .str false (t.extract (ctN f x c t).toNat t.size)], [opsO len k s b n, zB, scB g (.sl 4 (.c 0) ⟨true, 1⟩ 4), intsO c f, .cells [.int .i64 false kk, .int .i64 false ss, .str false (t.extract 0 (ctN f x c t).toNat), .int .i64 true 0] true, .cells [.int .i64 false kk, .int .i64 false ss, .str false bb, .int .i64 false nn] true]⟩) .fail) .fail) .fail) .fail)) (.leaf ⟨.exit 2, [slI 3 c, .ptr 1 (.c 0), .ptr 2 (.c 0), .int .i64 false (x : Int), slO len, .int .i64 false len, .int .i64 false i], [opsO len k s b n, zB, scB g (nilO), intsO c f]⟩) := by kernel_rfl
theorem fg_c1_11 (g : SetD) (len : Nat) (k s : Nat → Int) (b : Nat → ByteArray) (n : Nat → Int) (x i : Nat) (c : Nat) (f : Nat → Int) (M : Nat) (K S : Nat → Int) (B : Nat → ByteArray) (N : Nat → Int) (j : Nat → Value) : (evalS E6 S6 1000 (preC 2 fgB) (mkA 84 ([1, 4, 7, 8, 26, 27, 28].zip [slI 3 c, .ptr 1 (.c 0), .ptr 2 (.c 0), .int .i64 false (x : Int), slO len, .int .i64 false len, .int .i64 false i]) j) (mkH [opsO len k s b n, zB, scB g (slA 4 M), intsO c f, outA M K S B N])).mapO (viewD 84 (vselD ⟨[1, 4, 7, 8, 26, 27, 28], [.of 26, .of 4, .of 7, .of 1, .fld 7 11]⟩ ⟨[], []⟩ ⟨[4, 7], [.of 4, .of 7, .fld 7 11]⟩)) =
    .node (decide ((i : Int) < (len : Int))) (.leaf ⟨.normal, [slI 3 c, .ptr 1 (.c 0), .ptr 2 (.c 0), .int .i64 false (x : Int), slO len, .int .i64 false len, .int .i64 false i], [opsO len k s b n, zB, scB g (slA 4 M), intsO c f, outA M K S B N]⟩) (.leaf ⟨.exit 0, [.ptr 0 (.c 0), .ptr 1 (.c 0)], [zB, scB g (slA 2 M), outA M K S B N]⟩) := by kernel_rfl
theorem fg_c2_11 (g : SetD) (len : Nat) (k s : Nat → Int) (b : Nat → ByteArray) (n : Nat → Int) (x i : Nat) (c : Nat) (f : Nat → Int) (M : Nat) (K S : Nat → Int) (B : Nat → ByteArray) (N : Nat → Int) (j : Nat → Value) : (evalS E6 S6 1000 (preC 3 fgB1) (mkA 84 ([1, 4, 7, 8, 26, 27, 28].zip [slI 3 c, .ptr 1 (.c 0), .ptr 2 (.c 0), .int .i64 false (x : Int), slO len, .int .i64 false len, .int .i64 false i]) j) (mkH [opsO len k s b n, zB, scB g (slA 4 M), intsO c f, outA M K S B N])).mapO (viewD 84 (vselD ⟨[1, 4, 7, 8, 26, 27, 28, 10, 11], [.of 26, .of 4, .of 7, .of 1, .fld 7 11, .of 10]⟩ ⟨[], []⟩ ⟨[1, 4, 7, 8, 26, 27, 28], [.of 26, .of 4, .of 7, .of 1, .fld 7 11]⟩)) =
    .node (decide ((0 : Int) ≤ (i : Int)) && (i : Int).toNat.blt len) (.node (i.blt len) (.node ((c : Int) == 0) (.node ((M + 1).ble 70368744177664 && capRoom (M + 1) 40) (.node ((Nat.div 0 4 + M).ble M) (.leaf ⟨.exit 1, [slI 3 c, .ptr 1 (.c 0), .ptr 2 (.c 0), .int .i64 false (x : Int), slO len, .int .i64 false len, .int .i64 false i], [opsO len k s b n, zB, scB g (slA 4 (M + 1)), intsO c f, apO M K S B N (opRow ⟨k i, s i, b i, n i⟩ false)]⟩) .fail) .fail) (.node ((b i).toList == noBytes.toList) (.node ((M + 1).ble 70368744177664 && capRoom (M + 1) 40) (.node ((Nat.div 0 4 + M).ble M) (.leaf ⟨.exit 1, [slI 3 c, .ptr 1 (.c 0), .ptr 2 (.c 0), .int .i64 false (x : Int), slO len, .int .i64 false len, .int .i64 false i], [opsO len k s b n, zB, scB g (slA 4 (M + 1)), intsO c f, apO M K S B N (opRow ⟨k i, s i, b i, n i⟩ false)]⟩) .fail) .fail) (.leaf ⟨.normal, [slI 3 c, .ptr 1 (.c 0), .ptr 2 (.c 0), .int .i64 false (x : Int), slO len, .int .i64 false len, .int .i64 false i, .ptr 5 (.c 0), .str false (b i)], [opsO len k s b n, zB, scB g (slA 4 M), intsO c f, outA M K S B N, .cells (opRow ⟨k i, s i, b i, n i⟩ false) true]⟩))) .fail) .fail := by kernel_rfl
theorem fg_r19_11 (g : SetD) (len : Nat) (k s : Nat → Int) (b : Nat → ByteArray) (n : Nat → Int) (x i : Nat) (c : Nat) (f : Nat → Int) (M : Nat) (K S : Nat → Int) (B : Nat → ByteArray) (N : Nat → Int) (j : Nat → Value) : (evalS E6 S6 1000 (seqR (postC 2 fgB)) (mkA 84 ([1, 4, 7, 8, 26, 27, 28].zip [slI 3 c, .ptr 1 (.c 0), .ptr 2 (.c 0), .int .i64 false (x : Int), slO len, .int .i64 false len, .int .i64 false i]) j) (mkH [opsO len k s b n, zB, scB g (slA 4 M), intsO c f, outA M K S B N])).mapO (viewD 84 (vselD ⟨[1, 4, 7, 8, 26, 27, 28], [.of 26, .of 4, .of 7, .of 1, .fld 7 11]⟩ ⟨[], []⟩ ⟨[], []⟩)) =
    .leaf ⟨.normal, [slI 3 c, .ptr 1 (.c 0), .ptr 2 (.c 0), .int .i64 false (x : Int), slO len, .int .i64 false len, .int .i64 false (IntKind.i64.wrap ((i : Int) + 1))], [opsO len k s b n, zB, scB g (slA 4 M), intsO c f, outA M K S B N]⟩ := by kernel_rfl
theorem fg_c3_11 (g : SetD) (len : Nat) (k s : Nat → Int) (b : Nat → ByteArray) (n : Nat → Int) (x i : Nat) (c : Nat) (f : Nat → Int) (M : Nat) (K S : Nat → Int) (B : Nat → ByteArray) (N : Nat → Int) (kk ss nn : Int) (bb t : ByteArray) (j : Nat → Value) : (evalS E6 S6 1000 fgB2 (mkA 84 ([1, 4, 7, 8, 26, 27, 28, 10, 11].zip [slI 3 c, .ptr 1 (.c 0), .ptr 2 (.c 0), .int .i64 false (x : Int), slO len, .int .i64 false len, .int .i64 false i, .ptr 5 (.c 0), .str false t]) j) (mkH [opsO len k s b n, zB, scB g (slA 4 M), intsO c f, outA M K S B N, .cells [.int .i64 false kk, .int .i64 false ss, .str false bb, .int .i64 false nn] true])).mapO (viewD 84 (vselD ⟨[1, 4, 7, 8, 26, 27, 28, 10, 11], [.of 26, .of 4, .of 7, .of 1, .fld 7 11, .of 10]⟩ ⟨[], []⟩ ⟨[1, 4, 7, 8, 26, 27, 28], [.of 26, .of 4, .of 7, .of 1, .fld 7 11]⟩)) =
    .node (!(t.toList == noBytes.toList)) (.node (decide ((c : Int) = 0)) .fail (.node (decide ((0 : Int) ≤ (x : Int).tmod (c : Int)) && ((x : Int).tmod (c : Int)).toNat.blt c) (.node (((x : Int).tmod (c : Int)).toNat.blt c)
      (.node (decide ((0 : Int) ≤ ctN f x c t) && (ctN f x c t).toNat.ble t.size) (.node ((M + 1).ble 70368744177664 && capRoom (M + 1) 40) (.node ((Nat.div 0 4 + M).ble M) (.node (decide ((0 : Int) ≤ ctN f x c t) && (ctN f x c t).toNat.ble t.size) (.leaf ⟨.normal, [slI 3 c, .ptr 1 (.c 0), .ptr 2 (.c 0), .int .i64 false (IntKind.i64.wrap ((x : Int) + 1)), slO len, .int .i64 false len, .int .i64 false i, .ptr 5 (.c 0), .str false (t.extract (ctN f x c t).toNat t.size)], [opsO len k s b n, zB, scB g (slA 4 (M + 1)), intsO c f, apO M K S B N [.int .i64 false kk, .int .i64 false ss, .str false (t.extract 0 (ctN f x c t).toNat), .int .i64 true 0], .cells [.int .i64 false kk, .int .i64 false ss, .str false bb, .int .i64 false nn] true]⟩) .fail) .fail) .fail) .fail) .fail) .fail)) (.leaf ⟨.exit 2, [slI 3 c, .ptr 1 (.c 0), .ptr 2 (.c 0), .int .i64 false (x : Int), slO len, .int .i64 false len, .int .i64 false i], [opsO len k s b n, zB, scB g (slA 4 M), intsO c f, outA M K S B N]⟩) := by kernel_rfl
theorem fg_fin1 (g : SetD) (M : Nat) (K S : Nat → Int) (B : Nat → ByteArray) (N : Nat → Int) (j : Nat → Value) : (evalS E6 S6 1000 (seqR (postC 5 fgC)) (mkA 84 ([4, 7].zip [.ptr 0 (.c 0), .ptr 1 (.c 0)]) j) (mkH [zB, scB g (slA 2 M), outA M K S B N])).mapO (viewD 84 (vselD ⟨[], []⟩ ⟨[5, 4], [.of 4, .fld 7 11]⟩ ⟨[], []⟩)) =
    .node (decide ((M : Int) > 400)) (.leaf ⟨.ret, [.int .i64 true 6, .ptr 0 (.c 0)], [zC, outA M K S B N]⟩) (.leaf ⟨.ret, [.int .i64 true 0, .ptr 0 (.c 0)], [scB g (slA 1 M), outA M K S B N]⟩) := by kernel_rfl
theorem fg_fin0 (g : SetD) (j : Nat → Value) : (evalS E6 S6 1000 (seqR (postC 5 fgC)) (mkA 84 ([4, 7].zip [.ptr 0 (.c 0), .ptr 1 (.c 0)]) j) (mkH [zB, scB g nilO])).mapO (viewD 84 (vselD ⟨[], []⟩ ⟨[5, 4], [.of 4]⟩ ⟨[], []⟩)) =
    .leaf ⟨.ret, [.int .i64 true 0, .ptr 0 (.c 0)], [scB g nilO]⟩ := by kernel_rfl
end Go.Ev
end
section
set_option maxRecDepth 100000
set_option linter.unusedVariables false
namespace Go.Ev
open Go.Proofs Go.RowKit
noncomputable section
/-- A setup, and whether the sizes are in reach. -/
def frG (chk : SetD → List OpD → Int) (g : SetD) (ops : List OpD) : Bool := !(chk g ops == 0) || (decide (sumN ops ≤ 1000000000) && decide (ops.length ≤ 400))
def oS (o : Nat) (L : List OpD) : SV := match L with
  | [] => nilO
  | x :: l => slA o (l.length + 1)
def oO (L : List OpD) : List SObj := match L with
  | [] => []
  | x :: l => [outL (x :: l)]
end
theorem noB (t : ByteArray) : (t.toList == noBytes.toList) = decide (t.size = 0) := by
  rw [ByteArray.toList_eq, ByteArray.toList_eq]
  have h : t.size = t.data.toList.length := by rw [Array.length_toList]; rfl
  cases hl : t.data.toList with
  | nil => rw [h, hl]; rfl
  | cons a l => rw [h, hl]; rfl
theorem capO {x : Nat} (h : x ≤ 1000001000) : (Nat.ble x 70368744177664 && capRoom x 40) = true := by
  rw [Nat.ble_eq_true_of_le (by omega : x ≤ 70368744177664), Bool.true_and]
  exact Nat.ble_eq_true_of_le (by omega)
theorem den_snoc0 (o : Nat) (p : OpD) (l : Bool) : (SV.sl o (.c 0) ⟨true, 1⟩ 4).den = (oS o ([] ++ [p])).den := rfl
theorem frag_len : ∀ (m : Nat) (c : List Int) (k s : Int) (x : Nat) (t : ByteArray), t.size ≤ m → (frag1 c k s x t).1.length ≤ t.size ∧ (frag1 c k s x t).2 ≤ x + t.size := by
  intro m
  induction m with
  | zero => intro c k s x t h; rw [frag1_nil c k s x t (by omega)]; exact ⟨Nat.zero_le _, by omega⟩
  | succ m ih =>
    intro c k s x t h
    by_cases h0 : t.size = 0
    · rw [frag1_nil c k s x t h0]; exact ⟨Nat.zero_le _, by omega⟩
    · rw [frag1_cons c k s x t h0]
      have h1 : 1 ≤ cutN c x t := Nat.le_max_left _ _
      have hs : (t.extract (cutN c x t) t.size).size = t.size - cutN c x t := by rw [ByteArray.size_extract]; omega
      have := ih c k s (x + 1) (t.extract (cutN c x t) t.size) (by omega)
      simp only [List.length_cons]
      omega
theorem cut_of {c : Nat} {f : Nat → Int} (hlow : lowQ 0 (intL c f) < 0) {x : Nat} {t : ByteArray} (hc : 0 < c) (ht : t.size ≠ 0) : ((x : Int).tmod (c : Int)).toNat = x % c ∧ 0 ≤ (x : Int).tmod (c : Int) ∧ x % c < c ∧ 0 ≤ ctN f x c t ∧ (ctN f x c t).toNat = cutN (intL c f) x t ∧ (ctN f x c t).toNat ≤ t.size := by
  have h1 : (x : Int).tmod (c : Int) = ((x % c : Nat) : Int) := by
    rw [Int.tmod_eq_emod_of_nonneg (by omega)]
    rfl
  have h2 : x % c < c := Nat.mod_lt _ hc
  have h3 : ctX f x c = f (x % c) := by unfold ctX; rw [h1, Int.toNat_natCast]
  have hm : f (x % c) ∈ intL c f := List.mem_map.2 ⟨x % c, List.mem_range.2 h2, rfl⟩
  have h4 := lowQ_neg _ 0 (Int.le_refl _) hlow _ hm
  have h5 : (intL c f).getD (x % (intL c f).length) 1 = f (x % c) := by
    rw [intL_length, List.getD_eq_getElem?_getD, List.getElem?_map, List.getElem?_range h2]
    rfl
  refine ⟨by rw [h1, Int.toNat_natCast], by omega, h2, ?_⟩
  unfold ctN cutN
  rw [h3, h5]
  by_cases h6 : (t.size : Int) < f (x % c)
  · simp only [h6, decide_true, cond_true, Int.toNat_natCast]
    omega
  · simp only [h6, decide_false, cond_false]
    omega
/-- Ends. -/
theorem fg_end0 {ρ0 : Emb} {w : World} (gs : SetD) (e : Int) (l : Bool) {r : SetD × List OpD × Int} (b1 : Act) (w1 : World) (st : StL ρ0 w 84 [(5, .int .i64 l e), (4, .ptr 0 (.c 0))] [scB gs nilO] b1 w1) (hr : r = (gs, [], e)) :
    Leaves E6.P fgF b1.tmps (FrEnd ρ0 w r) b1.defers .returning w1 := by
  subst hr
  refine StL.finish (vs := [scrS gs nilO, .int .i64 l e]) (fun j => by kernel_rfl) st fun ρ v' rv _ fr => ?_
  exact ⟨v', ρ, rfl, fr, .inl ⟨rfl, rv⟩⟩
theorem fg_end2 {ρ0 : Emb} {w : World} (gs : SetD) (e : Int) (l : Bool) (M : Nat) (K S : Nat → Int) (B : Nat → ByteArray) (N : Nat → Int) {r : SetD × List OpD × Int} (b1 : Act) (w1 : World) (st : StL ρ0 w 84 [(5, .int .i64 l e), (4, .ptr 0 (.c 0))] [scB gs nilO, outA M K S B N] b1 w1) (hr : r = (gs, [], e)) :
    Leaves E6.P fgF b1.tmps (FrEnd ρ0 w r) b1.defers .returning w1 := by
  subst hr
  refine StL.finish (vs := [scrS gs nilO, .int .i64 l e]) (fun j => by kernel_rfl) st fun ρ v' rv _ fr => ?_
  exact ⟨v', ρ, rfl, fr, .inl ⟨rfl, rv⟩⟩
theorem fg_end1 {ρ0 : Emb} {w : World} (gs : SetD) (e : Int) (l : Bool) (p : OpD) (L : List OpD) {r : SetD × List OpD × Int} (b1 : Act) (w1 : World) (st : StL ρ0 w 84 [(5, .int .i64 l e), (4, .ptr 0 (.c 0))] [scB gs (slA 1 (p :: L).length), outL (p :: L)] b1 w1) (hr : r = (gs, p :: L, e)) :
    Leaves E6.P fgF b1.tmps (FrEnd ρ0 w r) b1.defers .returning w1 := by
  subst hr
  refine StL.finish (vs := [scrS gs (slA 1 (p :: L).length), .int .i64 l e]) (fun j => by kernel_rfl) st fun ρ v' rv wr fr => ?_
  have hg : (mkH [scB gs (slA 1 (p :: L).length), outL (p :: L)]).den.get 1 = some (outL (p :: L)).den := by
    rw [SH.den_get, mkH_get (by simp [most])]
    rfl
  have hne : (outL (p :: L)).den ≠ .dead := by rw [outL_den]; exact fun h => by cases h
  rcases wr.at hg hne with ⟨g1, h1, h2⟩ | ⟨_, h2⟩
  · have h3 := h2
    rw [outL_den] at h3
    exact ⟨v', ρ, rfl, fr, .inr ⟨1, g1, h1, h3.1, by simp, h2, rv⟩⟩
  · rw [outL_den] at h2
    simp only [AObj.cells.injEq] at h2
    exact absurd h2.2 (by decide)
/-- The state of the rounds. -/
def fgSt0 (g : SetD) (len : Nat) (k s : Nat → Int) (b : Nat → ByteArray) (n : Nat → Int) (ρ0 : Emb) (w : World) (x i : Nat) (L : List OpD) (b1 : Act) (w1 : World) : Prop :=
  StL ρ0 w 84 ([1, 4, 7, 8, 26, 27, 28].zip [nilO, .ptr 1 (.c 0), .ptr 2 (.c 0), .int .i64 false (x : Int), slO len, .int .i64 false len, .int .i64 false (i : Int)]) ([opsO len k s b n, zB, scB g (oS 3 L)] ++ oO L) b1 w1
theorem fg_snoc00 (g : SetD) (len : Nat) (k s : Nat → Int) (b : Nat → ByteArray) (n : Nat → Int) {ρ0 : Emb} {w : World} {x i : Nat} {p : OpD} {lb : Bool} {b1 : Act} {w1 : World}
    (st : StL ρ0 w 84 ([1, 4, 7, 8, 26, 27, 28].zip [nilO, .ptr 1 (.c 0), .ptr 2 (.c 0), .int .i64 false (x : Int), slO len, .int .i64 false len, .int .i64 false (i : Int)]) [opsO len k s b n, zB, scB g (.sl 3 (.c 0) ⟨true, 1⟩ 4), .cells (opRow p lb) true] b1 w1) : fgSt0 g len k s b n ρ0 w x i ([] ++ [p]) b1 w1 := by
  refine st.conv rfl ?_
  show [_, _, _, (SObj.cells (opRow p lb) true).den] = _
  rw [cells_one p lb]
  rfl
theorem fg_snoc10 (g : SetD) (len : Nat) (k s : Nat → Int) (b : Nat → ByteArray) (n : Nat → Int) {ρ0 : Emb} {w : World} {x i : Nat} {p q : OpD} {L : List OpD} {lb : Bool} {b1 : Act} {w1 : World}
    (st : StL ρ0 w 84 ([1, 4, 7, 8, 26, 27, 28].zip [nilO, .ptr 1 (.c 0), .ptr 2 (.c 0), .int .i64 false (x : Int), slO len, .int .i64 false len, .int .i64 false (i : Int)]) [opsO len k s b n, zB, scB g (slA 3 ((q :: L).length + 1)), apO (q :: L).length (fk (q :: L)) (fs (q :: L)) (fb (q :: L)) (fn (q :: L)) (opRow p lb)] b1 w1) : fgSt0 g len k s b n ρ0 w x i ((q :: L) ++ [p]) b1 w1 := by
  refine st.conv rfl ?_
  have h := cells_app (q :: L) p lb
  simp only [List.cons_append, oS, oO, List.map_cons, List.map_nil, List.cons_append, List.nil_append] at h ⊢
  rw [h]
  simp only [SObj.den, List.length_append, List.length_cons, List.length_nil]
theorem fg_loop0 (g : SetD) (len : Nat) (k s : Nat → Int) (b : Nat → ByteArray) (n : Nat → Int) {ρ0 : Emb} {w : World} (hlen : len ≤ 400) (hsum : sumN (opsL len k s b n) ≤ 1000000000)
    {Q : Exit → Act → World → Prop} (k2 : ∀ b1 w1, StL ρ0 w 84 ([4, 7].zip [.ptr 0 (.c 0), .ptr 1 (.c 0)]) ([zB, scB g (oS 2 (fragQ [] 0 (opsL len k s b n)))] ++ oO (fragQ [] 0 (opsL len k s b n))) b1 w1 → Q .normal b1 w1) (b1 : Act) (w1 : World) (st : fgSt0 g len k s b n ρ0 w 0 0 [] b1 w1) :
    Code.wp E6.P (seqR (seqL (postC 5 fgC))) Q b1 w1 := by
  refine wp_blockP (by kernel_rfl) ?_
  refine wp_loopP (by kernel_rfl) (fun M y w' => ∃ (i x : Nat) (L : List OpD), M = len - i ∧ i ≤ len ∧ x + sumN ((opsL len k s b n).drop i) ≤ 1000000000 ∧ L.length + (len - i) + sumN ((opsL len k s b n).drop i) ≤ 1000000400 ∧
    fragQ [] 0 (opsL len k s b n) = L ++ fragQ [] x ((opsL len k s b n).drop i) ∧ fgSt0 g len k s b n ρ0 w x i L y w') ?_ ⟨0, 0, [], rfl, Nat.zero_le _, by rw [List.drop_zero]; omega, by rw [List.drop_zero]; simp only [List.length_nil]; omega, by rw [List.drop_zero]; rfl, st⟩
  rintro _ b3 w3 ⟨i, x, L, rfl, hi, hx, hL, hacc, st⟩
  have fin : i = len → ∀ b4 w4, StL ρ0 w 84 ([4, 7].zip [.ptr 0 (.c 0), .ptr 1 (.c 0)]) ([zB, scB g (oS 2 L)] ++ oO L) b4 w4 → Q .normal b4 w4 := fun he b4 w4 st => by
    rw [he, List.drop_eq_nil_of_le (by rw [opsL_length]; exact Nat.le_refl _), fragQ, List.append_nil] at hacc
    exact k2 b4 w4 (by rw [hacc]; exact st)
  have next : ∀ (x' : Nat) (L' : List OpD) (b4 : Act) (w4 : World), i < len → x' + sumN ((opsL len k s b n).drop (i + 1)) ≤ 1000000000 → L'.length + (len - (i + 1)) + sumN ((opsL len k s b n).drop (i + 1)) ≤ 1000000400 →
      L' ++ fragQ [] x' ((opsL len k s b n).drop (i + 1)) = L ++ fragQ [] x ((opsL len k s b n).drop i) → fgSt0 g len k s b n ρ0 w x' i L' b4 w4 →
      Code.wp E6.P (seqR (postC 2 fgB)) (Exit.then (fun b' w' => ∃ M, M < len - i ∧ ∃ (i x : Nat) (L : List OpD), M = len - i ∧ i ≤ len ∧ x + sumN ((opsL len k s b n).drop i) ≤ 1000000000 ∧ L.length + (len - i) + sumN ((opsL len k s b n).drop i) ≤ 1000000400 ∧
        fragQ [] 0 (opsL len k s b n) = L ++ fragQ [] x ((opsL len k s b n).drop i) ∧ fgSt0 g len k s b n ρ0 w x i L b' w') (Exit.inBlock (blockId (seqR (seqL (postC 5 fgC)))) Q)) b4 w4 := by
    intro x' L' b4 w4 hlt h1 h2 h3 st
    have hw : IntKind.i64.wrap ((i : Int) + 1) = ((i + 1 : Nat) : Int) := wrap_succ hlt (by omega)
    cases L' with
    | nil =>
      refine StL.pieceD sound6 thom6 1000 (by decide) (by kernel_rfl) (fg_r19_00 g len k s b n x' i) st ?_
      refine Holds.leaf ⟨rfl, fun b5 w5 st => ⟨len - (i + 1), by omega, i + 1, x', [], rfl, hlt, h1, h2, by rw [hacc, ← h3], ?_⟩⟩
      rw [hw] at st
      exact st
    | cons q L' =>
      refine StL.pieceD sound6 thom6 1000 (by decide) (by kernel_rfl) (fg_r19_01 g len k s b n x' i (q :: L').length (fk (q :: L')) (fs (q :: L')) (fb (q :: L')) (fn (q :: L'))) st ?_
      refine Holds.leaf ⟨rfl, fun b5 w5 st => ⟨len - (i + 1), by omega, i + 1, x', q :: L', rfl, hlt, h1, h2, by rw [hacc, ← h3], ?_⟩⟩
      rw [hw] at st
      exact st
  have plain : ∀ (b4 : Act) (w4 : World) (hlt : i < len), True → fgSt0 g len k s b n ρ0 w x i (L ++ [⟨k i, s i, b i, n i⟩]) b4 w4 →
      Code.wp E6.P (seqR (postC 2 fgB)) (Exit.then (fun b' w' => ∃ M, M < len - i ∧ ∃ (i x : Nat) (L : List OpD), M = len - i ∧ i ≤ len ∧ x + sumN ((opsL len k s b n).drop i) ≤ 1000000000 ∧ L.length + (len - i) + sumN ((opsL len k s b n).drop i) ≤ 1000000400 ∧
        fragQ [] 0 (opsL len k s b n) = L ++ fragQ [] x ((opsL len k s b n).drop i) ∧ fgSt0 g len k s b n ρ0 w x i L b' w') (Exit.inBlock (blockId (seqR (seqL (postC 5 fgC)))) Q)) b4 w4 := by
    intro b4 w4 hlt hor st
    rw [opsL_drop hlt, sumN] at hx hL
    simp only at hx hL
    refine next x _ b4 w4 hlt (by omega) (by simp only [List.length_append, List.length_cons, List.length_nil]; omega) ?_ st
    rw [opsL_drop hlt, fragQ, if_pos (.inl rfl), List.append_assoc]
    rfl
  cases L with
  | nil =>
    refine StL.preD sound6 thom6 1000 1 (by decide) (by kernel_rfl) (by kernel_rfl) (fg_c1_00 g len k s b n x i) st ?_
    refine Holds.node (fun h2 => ?_) fun h2 => ?_
    · have hlt : i < len := by simpa using h2
      have hblt : i.blt len = true := blt_true hlt
      refine .leaf ⟨rfl, fun b4 w4 st => ?_⟩
      show Code.wp E6.P (postC 2 fgB) _ b4 w4
      refine wp_seqP (by kernel_rfl) ?_
      refine wp_blockP (by kernel_rfl) ?_
      refine StL.preD sound6 thom6 1000 2 (by decide) (by kernel_rfl) (by kernel_rfl) (fg_c2_00 g len k s b n x i) st ?_
      refine Holds.yesB (by simp [hblt]) (Holds.yesB hblt ?_)
      exact .leaf ⟨rfl, fun b5 w5 st => plain b5 w5 hlt trivial (fg_snoc00 g len k s b n st)⟩
    · have hge : i = len := by simp at h2; omega
      exact .leaf ⟨rfl, fun b4 w4 st => fin hge b4 w4 st⟩
  | cons q L =>
    refine StL.preD sound6 thom6 1000 1 (by decide) (by kernel_rfl) (by kernel_rfl) (fg_c1_01 g len k s b n x i (q :: L).length (fk (q :: L)) (fs (q :: L)) (fb (q :: L)) (fn (q :: L))) st ?_
    refine Holds.node (fun h2 => ?_) fun h2 => ?_
    · have hlt : i < len := by simpa using h2
      have hblt : i.blt len = true := blt_true hlt
      refine .leaf ⟨rfl, fun b4 w4 st => ?_⟩
      show Code.wp E6.P (postC 2 fgB) _ b4 w4
      refine wp_seqP (by kernel_rfl) ?_
      refine wp_blockP (by kernel_rfl) ?_
      refine StL.preD sound6 thom6 1000 2 (by decide) (by kernel_rfl) (by kernel_rfl) (fg_c2_01 g len k s b n x i (q :: L).length (fk (q :: L)) (fs (q :: L)) (fb (q :: L)) (fn (q :: L))) st ?_
      refine Holds.yesB (by simp [hblt]) (Holds.yesB hblt ?_)
      refine Holds.yesB (capO (by simp only [List.length_cons] at hL ⊢; omega)) (Holds.yesB (bleQ _) ?_)
      exact .leaf ⟨rfl, fun b5 w5 st => plain b5 w5 hlt trivial (fg_snoc10 g len k s b n st)⟩
    · have hge : i = len := by simp at h2; omega
      exact .leaf ⟨rfl, fun b4 w4 st => fin hge b4 w4 st⟩
/-- The state of the rounds. -/
def fgSt1 (g : SetD) (len : Nat) (k s : Nat → Int) (b : Nat → ByteArray) (n : Nat → Int) (c : Nat) (f : Nat → Int) (ρ0 : Emb) (w : World) (x i : Nat) (L : List OpD) (b1 : Act) (w1 : World) : Prop :=
  StL ρ0 w 84 ([1, 4, 7, 8, 26, 27, 28].zip [slI 3 c, .ptr 1 (.c 0), .ptr 2 (.c 0), .int .i64 false (x : Int), slO len, .int .i64 false len, .int .i64 false (i : Int)]) ([opsO len k s b n, zB, scB g (oS 4 L), intsO c f] ++ oO L) b1 w1
theorem fg_snoc01 (g : SetD) (len : Nat) (k s : Nat → Int) (b : Nat → ByteArray) (n : Nat → Int) (c : Nat) (f : Nat → Int) {ρ0 : Emb} {w : World} {x i : Nat} {p : OpD} {lb : Bool} {b1 : Act} {w1 : World}
    (st : StL ρ0 w 84 ([1, 4, 7, 8, 26, 27, 28].zip [slI 3 c, .ptr 1 (.c 0), .ptr 2 (.c 0), .int .i64 false (x : Int), slO len, .int .i64 false len, .int .i64 false (i : Int)]) [opsO len k s b n, zB, scB g (.sl 4 (.c 0) ⟨true, 1⟩ 4), intsO c f, .cells (opRow p lb) true] b1 w1) : fgSt1 g len k s b n c f ρ0 w x i ([] ++ [p]) b1 w1 := by
  refine st.conv rfl ?_
  show [_, _, _, _, (SObj.cells (opRow p lb) true).den] = _
  rw [cells_one p lb]
  rfl
theorem fg_snoc11 (g : SetD) (len : Nat) (k s : Nat → Int) (b : Nat → ByteArray) (n : Nat → Int) (c : Nat) (f : Nat → Int) {ρ0 : Emb} {w : World} {x i : Nat} {p q : OpD} {L : List OpD} {lb : Bool} {b1 : Act} {w1 : World}
    (st : StL ρ0 w 84 ([1, 4, 7, 8, 26, 27, 28].zip [slI 3 c, .ptr 1 (.c 0), .ptr 2 (.c 0), .int .i64 false (x : Int), slO len, .int .i64 false len, .int .i64 false (i : Int)]) [opsO len k s b n, zB, scB g (slA 4 ((q :: L).length + 1)), intsO c f, apO (q :: L).length (fk (q :: L)) (fs (q :: L)) (fb (q :: L)) (fn (q :: L)) (opRow p lb)] b1 w1) : fgSt1 g len k s b n c f ρ0 w x i ((q :: L) ++ [p]) b1 w1 := by
  refine st.conv rfl ?_
  have h := cells_app (q :: L) p lb
  simp only [List.cons_append, oS, oO, List.map_cons, List.map_nil, List.cons_append, List.nil_append] at h ⊢
  rw [h]
  simp only [SObj.den, List.length_append, List.length_cons, List.length_nil]
def pO (L : List OpD) : Nat := match L with
  | [] => 4
  | _ :: _ => 5
/-- The state of the rounds within a text. -/
def fgIn (g : SetD) (len : Nat) (k s : Nat → Int) (b : Nat → ByteArray) (n : Nat → Int) (c : Nat) (f : Nat → Int) (ρ0 : Emb) (w : World) (i : Nat) (x : Nat) (t : ByteArray) (L : List OpD) (b1 : Act) (w1 : World) : Prop :=
  StL ρ0 w 84 ([1, 4, 7, 8, 26, 27, 28, 10, 11].zip [slI 3 c, .ptr 1 (.c 0), .ptr 2 (.c 0), .int .i64 false (x : Int), slO len, .int .i64 false len, .int .i64 false (i : Int), .ptr (pO L) (.c 0), .str false t]) ([opsO len k s b n, zB, scB g (oS 4 L), intsO c f] ++ (oO L ++ [.cells (opRow ⟨k i, s i, b i, n i⟩ false) true])) b1 w1
theorem fg_in0 (g : SetD) (len : Nat) (k s : Nat → Int) (b : Nat → ByteArray) (n : Nat → Int) (c : Nat) (f : Nat → Int) {ρ0 : Emb} {w : World} {x i : Nat} {y : Int} {t : ByteArray} {p : OpD} {lb : Bool} {b1 : Act} {w1 : World} (hy : y = (x : Int))
    (st : StL ρ0 w 84 ([1, 4, 7, 8, 26, 27, 28, 10, 11].zip [slI 3 c, .ptr 1 (.c 0), .ptr 2 (.c 0), .int .i64 false y, slO len, .int .i64 false len, .int .i64 false (i : Int), .ptr 5 (.c 0), .str false t]) [opsO len k s b n, zB, scB g (.sl 4 (.c 0) ⟨true, 1⟩ 4), intsO c f, .cells (opRow p lb) true, .cells (opRow ⟨k i, s i, b i, n i⟩ false) true] b1 w1) : fgIn g len k s b n c f ρ0 w i x t ([] ++ [p]) b1 w1 := by
  subst hy
  refine st.conv rfl ?_
  show [_, _, _, _, (SObj.cells (opRow p lb) true).den, _] = _
  rw [cells_one p lb]
  rfl
theorem fg_in1 (g : SetD) (len : Nat) (k s : Nat → Int) (b : Nat → ByteArray) (n : Nat → Int) (c : Nat) (f : Nat → Int) {ρ0 : Emb} {w : World} {x i : Nat} {y : Int} {t : ByteArray} {p q : OpD} {L : List OpD} {lb : Bool} {b1 : Act} {w1 : World} (hy : y = (x : Int))
    (st : StL ρ0 w 84 ([1, 4, 7, 8, 26, 27, 28, 10, 11].zip [slI 3 c, .ptr 1 (.c 0), .ptr 2 (.c 0), .int .i64 false y, slO len, .int .i64 false len, .int .i64 false (i : Int), .ptr 5 (.c 0), .str false t]) [opsO len k s b n, zB, scB g (slA 4 ((q :: L).length + 1)), intsO c f, apO (q :: L).length (fk (q :: L)) (fs (q :: L)) (fb (q :: L)) (fn (q :: L)) (opRow p lb), .cells (opRow ⟨k i, s i, b i, n i⟩ false) true] b1 w1) : fgIn g len k s b n c f ρ0 w i x t ((q :: L) ++ [p]) b1 w1 := by
  subst hy
  refine st.conv rfl ?_
  have h := cells_app (q :: L) p lb
  simp only [List.cons_append, oS, oO, List.map_cons, List.map_nil, List.cons_append, List.nil_append] at h ⊢
  rw [h]
  simp only [SObj.den, List.length_append, List.length_cons, List.length_nil]
/-- The rounds within a text. -/
theorem fg_inner (g : SetD) (len : Nat) (k s : Nat → Int) (b : Nat → ByteArray) (n : Nat → Int) (c : Nat) (f : Nat → Int) {ρ0 : Emb} {w : World} (hlow : lowQ 0 (intL c f) < 0) (hc : 0 < c) (i : Nat) (x0 : Nat) (t0 : ByteArray) (L0 : List OpD) (hx : x0 + t0.size ≤ 1000000000) (hL : L0.length + t0.size ≤ 1000001000)
    {Q : Exit → Act → World → Prop} (k2 : ∀ x L b1 w1, L = L0 ++ (frag1 (intL c f) (k i) (s i) x0 t0).1 → x = (frag1 (intL c f) (k i) (s i) x0 t0).2 → fgSt1 g len k s b n c f ρ0 w x i L b1 w1 → Q .normal b1 w1) (b1 : Act) (w1 : World) (st : fgIn g len k s b n c f ρ0 w i x0 t0 L0 b1 w1) :
    Code.wp E6.P (postC 3 fgB1) Q b1 w1 := by
  refine wp_blockP (by kernel_rfl) ?_
  refine wp_loopP (by kernel_rfl) (fun M y w' => ∃ (x : Nat) (t : ByteArray) (L : List OpD), M = t.size ∧ x + t.size ≤ 1000000000 ∧ L.length + t.size ≤ 1000001000 ∧
    L0 ++ (frag1 (intL c f) (k i) (s i) x0 t0).1 = L ++ (frag1 (intL c f) (k i) (s i) x t).1 ∧ (frag1 (intL c f) (k i) (s i) x0 t0).2 = (frag1 (intL c f) (k i) (s i) x t).2 ∧ fgIn g len k s b n c f ρ0 w i x t L y w') ?_ ⟨x0, t0, L0, rfl, hx, hL, rfl, rfl, st⟩
  rintro _ b3 w3 ⟨x, t, L, rfl, hx, hL, hacc, hac2, st⟩
  have fin : t.size = 0 → ∀ b4 w4, fgSt1 g len k s b n c f ρ0 w x i L b4 w4 → Q .normal b4 w4 := fun h0 b4 w4 st => by
    rw [frag1_nil _ _ _ _ _ h0] at hacc hac2
    exact k2 x L b4 w4 (by rw [hacc, List.append_nil]) hac2.symm st
  have next : t.size ≠ 0 → ∀ b4 w4, (∀ y, y = ((x + 1 : Nat) : Int) → True) → fgIn g len k s b n c f ρ0 w i (x + 1) (t.extract (cutN (intL c f) x t) t.size) (L ++ [⟨k i, s i, t.extract 0 (cutN (intL c f) x t), 0⟩]) b4 w4 →
      ∃ M, M < t.size ∧ ∃ (x : Nat) (t : ByteArray) (L : List OpD), M = t.size ∧ x + t.size ≤ 1000000000 ∧ L.length + t.size ≤ 1000001000 ∧
        L0 ++ (frag1 (intL c f) (k i) (s i) x0 t0).1 = L ++ (frag1 (intL c f) (k i) (s i) x t).1 ∧ (frag1 (intL c f) (k i) (s i) x0 t0).2 = (frag1 (intL c f) (k i) (s i) x t).2 ∧ fgIn g len k s b n c f ρ0 w i x t L b4 w4 := fun h0 b4 w4 _ st => by
    have h1 : 1 ≤ cutN (intL c f) x t := Nat.le_max_left _ _
    have hs : (t.extract (cutN (intL c f) x t) t.size).size = t.size - cutN (intL c f) x t := by rw [ByteArray.size_extract]; omega
    rw [frag1_cons _ _ _ _ _ h0] at hacc hac2
    refine ⟨t.size - cutN (intL c f) x t, by omega, x + 1, _, _, hs.symm, by omega, by simp only [List.length_append, List.length_cons, List.length_nil]; omega, ?_, hac2, st⟩
    rw [hacc, List.append_assoc]
    rfl
  have hsx : IntKind.i64.wrap ((x : Int) + 1) = ((x + 1 : Nat) : Int) := wrap_succ (len := x + 1) (by omega) (by omega)
  have hcz : decide ((c : Int) = 0) = false := by simp; omega
  cases L with
  | nil =>
    refine StL.pieceD sound6 thom6 1000 (by decide) (by kernel_rfl) (fg_c3_10 g len k s b n x i c f (k i) (s i) (n i) (b i) t) st ?_
    rw [noB]
    refine Holds.node (fun h0 => ?_) fun h0 => ?_
    · have h0 : t.size ≠ 0 := by simpa using h0
      obtain ⟨e1, e2, e3, e4, e5, e6⟩ := cut_of hlow (x := x) hc h0
      rw [e1, hcz, e5]
      refine Holds.no rfl (Holds.yesB (by simp [e2, blt_true e3]) (Holds.yesB (blt_true e3) ?_))
      have hsl : (decide ((0 : Int) ≤ ctN f x c t) && (cutN (intL c f) x t).ble t.size) = true := by
        rw [e5] at e6
        simp only [e4, decide_true, Bool.true_and]
        exact Nat.ble_eq_true_of_le e6
      refine Holds.yesB hsl (Holds.yesB hsl ?_)
      exact .leaf ⟨rfl, fun b4 w4 st => next h0 b4 w4 (fun _ _ => trivial) (fg_in0 g len k s b n c f (p := ⟨k i, s i, t.extract 0 (cutN (intL c f) x t), 0⟩) (lb := true) hsx st)⟩
    · have h0 : t.size = 0 := by simpa using h0
      exact .leaf ⟨rfl, fun b4 w4 st => fin h0 b4 w4 st⟩
  | cons q L =>
    refine StL.pieceD sound6 thom6 1000 (by decide) (by kernel_rfl) (fg_c3_11 g len k s b n x i c f (q :: L).length (fk (q :: L)) (fs (q :: L)) (fb (q :: L)) (fn (q :: L)) (k i) (s i) (n i) (b i) t) st ?_
    rw [noB]
    refine Holds.node (fun h0 => ?_) fun h0 => ?_
    · have h0 : t.size ≠ 0 := by simpa using h0
      obtain ⟨e1, e2, e3, e4, e5, e6⟩ := cut_of hlow (x := x) hc h0
      rw [e1, hcz, e5]
      refine Holds.no rfl (Holds.yesB (by simp [e2, blt_true e3]) (Holds.yesB (blt_true e3) ?_))
      have hsl : (decide ((0 : Int) ≤ ctN f x c t) && (cutN (intL c f) x t).ble t.size) = true := by
        rw [e5] at e6
        simp only [e4, decide_true, Bool.true_and]
        exact Nat.ble_eq_true_of_le e6
      refine Holds.yesB hsl (Holds.yesB (capO (by simp only [List.length_cons] at hL ⊢; omega)) (Holds.yesB (bleQ _) (Holds.yesB hsl ?_)))
      exact .leaf ⟨rfl, fun b4 w4 st => next h0 b4 w4 (fun _ _ => trivial) (fg_in1 g len k s b n c f (p := ⟨k i, s i, t.extract 0 (cutN (intL c f) x t), 0⟩) (lb := true) hsx st)⟩
    · have h0 : t.size = 0 := by simpa using h0
      exact .leaf ⟨rfl, fun b4 w4 st => fin h0 b4 w4 st⟩
theorem fg_loop1 (g : SetD) (len : Nat) (k s : Nat → Int) (b : Nat → ByteArray) (n : Nat → Int) (c : Nat) (f : Nat → Int) {ρ0 : Emb} {w : World} (hlow : lowQ 0 (intL c f) < 0) (hlen : len ≤ 400) (hsum : sumN (opsL len k s b n) ≤ 1000000000)
    {Q : Exit → Act → World → Prop} (k2 : ∀ b1 w1, StL ρ0 w 84 ([4, 7].zip [.ptr 0 (.c 0), .ptr 1 (.c 0)]) ([zB, scB g (oS 2 (fragQ (intL c f) 0 (opsL len k s b n)))] ++ oO (fragQ (intL c f) 0 (opsL len k s b n))) b1 w1 → Q .normal b1 w1) (b1 : Act) (w1 : World) (st : fgSt1 g len k s b n c f ρ0 w 0 0 [] b1 w1) :
    Code.wp E6.P (seqR (seqL (postC 5 fgC))) Q b1 w1 := by
  refine wp_blockP (by kernel_rfl) ?_
  refine wp_loopP (by kernel_rfl) (fun M y w' => ∃ (i x : Nat) (L : List OpD), M = len - i ∧ i ≤ len ∧ x + sumN ((opsL len k s b n).drop i) ≤ 1000000000 ∧ L.length + (len - i) + sumN ((opsL len k s b n).drop i) ≤ 1000000400 ∧
    fragQ (intL c f) 0 (opsL len k s b n) = L ++ fragQ (intL c f) x ((opsL len k s b n).drop i) ∧ fgSt1 g len k s b n c f ρ0 w x i L y w') ?_ ⟨0, 0, [], rfl, Nat.zero_le _, by rw [List.drop_zero]; omega, by rw [List.drop_zero]; simp only [List.length_nil]; omega, by rw [List.drop_zero]; rfl, st⟩
  rintro _ b3 w3 ⟨i, x, L, rfl, hi, hx, hL, hacc, st⟩
  have fin : i = len → ∀ b4 w4, StL ρ0 w 84 ([4, 7].zip [.ptr 0 (.c 0), .ptr 1 (.c 0)]) ([zB, scB g (oS 2 L)] ++ oO L) b4 w4 → Q .normal b4 w4 := fun he b4 w4 st => by
    rw [he, List.drop_eq_nil_of_le (by rw [opsL_length]; exact Nat.le_refl _), fragQ, List.append_nil] at hacc
    exact k2 b4 w4 (by rw [hacc]; exact st)
  have next : ∀ (x' : Nat) (L' : List OpD) (b4 : Act) (w4 : World), i < len → x' + sumN ((opsL len k s b n).drop (i + 1)) ≤ 1000000000 → L'.length + (len - (i + 1)) + sumN ((opsL len k s b n).drop (i + 1)) ≤ 1000000400 →
      L' ++ fragQ (intL c f) x' ((opsL len k s b n).drop (i + 1)) = L ++ fragQ (intL c f) x ((opsL len k s b n).drop i) → fgSt1 g len k s b n c f ρ0 w x' i L' b4 w4 →
      Code.wp E6.P (seqR (postC 2 fgB)) (Exit.then (fun b' w' => ∃ M, M < len - i ∧ ∃ (i x : Nat) (L : List OpD), M = len - i ∧ i ≤ len ∧ x + sumN ((opsL len k s b n).drop i) ≤ 1000000000 ∧ L.length + (len - i) + sumN ((opsL len k s b n).drop i) ≤ 1000000400 ∧
        fragQ (intL c f) 0 (opsL len k s b n) = L ++ fragQ (intL c f) x ((opsL len k s b n).drop i) ∧ fgSt1 g len k s b n c f ρ0 w x i L b' w') (Exit.inBlock (blockId (seqR (seqL (postC 5 fgC)))) Q)) b4 w4 := by
    intro x' L' b4 w4 hlt h1 h2 h3 st
    have hw : IntKind.i64.wrap ((i : Int) + 1) = ((i + 1 : Nat) : Int) := wrap_succ hlt (by omega)
    cases L' with
    | nil =>
      refine StL.pieceD sound6 thom6 1000 (by decide) (by kernel_rfl) (fg_r19_10 g len k s b n x' i c f) st ?_
      refine Holds.leaf ⟨rfl, fun b5 w5 st => ⟨len - (i + 1), by omega, i + 1, x', [], rfl, hlt, h1, h2, by rw [hacc, ← h3], ?_⟩⟩
      rw [hw] at st
      exact st
    | cons q L' =>
      refine StL.pieceD sound6 thom6 1000 (by decide) (by kernel_rfl) (fg_r19_11 g len k s b n x' i c f (q :: L').length (fk (q :: L')) (fs (q :: L')) (fb (q :: L')) (fn (q :: L'))) st ?_
      refine Holds.leaf ⟨rfl, fun b5 w5 st => ⟨len - (i + 1), by omega, i + 1, x', q :: L', rfl, hlt, h1, h2, by rw [hacc, ← h3], ?_⟩⟩
      rw [hw] at st
      exact st
  have plain : ∀ (b4 : Act) (w4 : World) (hlt : i < len), c = 0 ∨ (b i).size = 0 → fgSt1 g len k s b n c f ρ0 w x i (L ++ [⟨k i, s i, b i, n i⟩]) b4 w4 →
      Code.wp E6.P (seqR (postC 2 fgB)) (Exit.then (fun b' w' => ∃ M, M < len - i ∧ ∃ (i x : Nat) (L : List OpD), M = len - i ∧ i ≤ len ∧ x + sumN ((opsL len k s b n).drop i) ≤ 1000000000 ∧ L.length + (len - i) + sumN ((opsL len k s b n).drop i) ≤ 1000000400 ∧
        fragQ (intL c f) 0 (opsL len k s b n) = L ++ fragQ (intL c f) x ((opsL len k s b n).drop i) ∧ fgSt1 g len k s b n c f ρ0 w x i L b' w') (Exit.inBlock (blockId (seqR (seqL (postC 5 fgC)))) Q)) b4 w4 := by
    intro b4 w4 hlt hor st
    rw [opsL_drop hlt, sumN] at hx hL
    simp only at hx hL
    refine next x _ b4 w4 hlt (by omega) (by simp only [List.length_append, List.length_cons, List.length_nil]; omega) ?_ st
    rw [opsL_drop hlt, fragQ, if_pos (hor.imp (fun h => by subst h; rfl) id), List.append_assoc]
    rfl
  have cut : ∀ (b4 : Act) (w4 : World) (hlt : i < len), 0 < c → (b i).size ≠ 0 → fgIn g len k s b n c f ρ0 w i x (b i) L b4 w4 →
      Code.wp E6.P (postC 3 fgB1) (Exit.inBlock (blockId (seqL (postC 2 fgB))) (Exit.then ((seqR (postC 2 fgB)).wp E6.P (Exit.then (fun b' w' => ∃ M, M < len - i ∧ ∃ (i x : Nat) (L : List OpD), M = len - i ∧ i ≤ len ∧ x + sumN ((opsL len k s b n).drop i) ≤ 1000000000 ∧ L.length + (len - i) + sumN ((opsL len k s b n).drop i) ≤ 1000000400 ∧
        fragQ (intL c f) 0 (opsL len k s b n) = L ++ fragQ (intL c f) x ((opsL len k s b n).drop i) ∧ fgSt1 g len k s b n c f ρ0 w x i L b' w') (Exit.inBlock (blockId (seqR (seqL (postC 5 fgC)))) Q))) (Exit.then (fun b' w' => ∃ M, M < len - i ∧ ∃ (i x : Nat) (L : List OpD), M = len - i ∧ i ≤ len ∧ x + sumN ((opsL len k s b n).drop i) ≤ 1000000000 ∧ L.length + (len - i) + sumN ((opsL len k s b n).drop i) ≤ 1000000400 ∧
        fragQ (intL c f) 0 (opsL len k s b n) = L ++ fragQ (intL c f) x ((opsL len k s b n).drop i) ∧ fgSt1 g len k s b n c f ρ0 w x i L b' w') (Exit.inBlock (blockId (seqR (seqL (postC 5 fgC)))) Q)))) b4 w4 := by
    intro b4 w4 hlt hc hb st
    rw [opsL_drop hlt, sumN] at hx hL
    simp only at hx hL
    have hfl := frag_len (b i).size (intL c f) (k i) (s i) x (b i) (Nat.le_refl _)
    refine fg_inner g len k s b n c f hlow hc i x (b i) L (by omega) (by omega) (fun x2 L2 b5 w5 e1 e2 st => ?_) b4 w4 st
    show Code.wp E6.P (seqR (postC 2 fgB)) _ b5 w5
    refine next x2 L2 b5 w5 hlt (by omega) (by rw [e1, List.length_append]; omega) ?_ st
    have hnot : ¬ ((intL c f) = [] ∨ (b i).size = 0) := by
      rintro (h | h)
      · have := congrArg List.length h
        rw [intL_length] at this
        simp only [List.length_nil] at this
        omega
      · exact hb h
    rw [opsL_drop hlt, fragQ, if_neg hnot, e1, e2, List.append_assoc]
  cases L with
  | nil =>
    refine StL.preD sound6 thom6 1000 1 (by decide) (by kernel_rfl) (by kernel_rfl) (fg_c1_10 g len k s b n x i c f) st ?_
    refine Holds.node (fun h2 => ?_) fun h2 => ?_
    · have hlt : i < len := by simpa using h2
      have hblt : i.blt len = true := blt_true hlt
      refine .leaf ⟨rfl, fun b4 w4 st => ?_⟩
      show Code.wp E6.P (postC 2 fgB) _ b4 w4
      refine wp_seqP (by kernel_rfl) ?_
      refine wp_blockP (by kernel_rfl) ?_
      refine StL.preD sound6 thom6 1000 2 (by decide) (by kernel_rfl) (by kernel_rfl) (fg_c2_10 g len k s b n x i c f) st ?_
      refine Holds.yesB (by simp [hblt]) (Holds.yesB hblt ?_)
      refine Holds.node (fun h3 => ?_) fun h3 => ?_
      · have h3 : c = 0 := by simp at h3; omega
        exact .leaf ⟨rfl, fun b5 w5 st => plain b5 w5 hlt (.inl h3) (fg_snoc01 g len k s b n c f st)⟩
      · have h3 : 0 < c := by simp at h3; omega
        rw [noB]
        refine Holds.node (fun h4 => ?_) fun h4 => ?_
        · have h4 : (b i).size = 0 := by simpa using h4
          exact .leaf ⟨rfl, fun b5 w5 st => plain b5 w5 hlt (.inr h4) (fg_snoc01 g len k s b n c f st)⟩
        · have h4 : (b i).size ≠ 0 := by simpa using h4
          exact .leaf ⟨rfl, fun b5 w5 st => cut b5 w5 hlt h3 h4 st⟩
    · have hge : i = len := by simp at h2; omega
      exact .leaf ⟨rfl, fun b4 w4 st => fin hge b4 w4 st⟩
  | cons q L =>
    refine StL.preD sound6 thom6 1000 1 (by decide) (by kernel_rfl) (by kernel_rfl) (fg_c1_11 g len k s b n x i c f (q :: L).length (fk (q :: L)) (fs (q :: L)) (fb (q :: L)) (fn (q :: L))) st ?_
    refine Holds.node (fun h2 => ?_) fun h2 => ?_
    · have hlt : i < len := by simpa using h2
      have hblt : i.blt len = true := blt_true hlt
      refine .leaf ⟨rfl, fun b4 w4 st => ?_⟩
      show Code.wp E6.P (postC 2 fgB) _ b4 w4
      refine wp_seqP (by kernel_rfl) ?_
      refine wp_blockP (by kernel_rfl) ?_
      refine StL.preD sound6 thom6 1000 2 (by decide) (by kernel_rfl) (by kernel_rfl) (fg_c2_11 g len k s b n x i c f (q :: L).length (fk (q :: L)) (fs (q :: L)) (fb (q :: L)) (fn (q :: L))) st ?_
      refine Holds.yesB (by simp [hblt]) (Holds.yesB hblt ?_)
      refine Holds.node (fun h3 => ?_) fun h3 => ?_
      · have h3 : c = 0 := by simp at h3; omega
        refine Holds.yesB (capO (by simp only [List.length_cons] at hL ⊢; omega)) (Holds.yesB (bleQ _) ?_)
        exact .leaf ⟨rfl, fun b5 w5 st => plain b5 w5 hlt (.inl h3) (fg_snoc11 g len k s b n c f st)⟩
      · have h3 : 0 < c := by simp at h3; omega
        rw [noB]
        refine Holds.node (fun h4 => ?_) fun h4 => ?_
        · have h4 : (b i).size = 0 := by simpa using h4
          refine Holds.yesB (capO (by simp only [List.length_cons] at hL ⊢; omega)) (Holds.yesB (bleQ _) ?_)
          exact .leaf ⟨rfl, fun b5 w5 st => plain b5 w5 hlt (.inr h4) (fg_snoc11 g len k s b n c f st)⟩
        · have h4 : (b i).size ≠ 0 := by simpa using h4
          exact .leaf ⟨rfl, fun b5 w5 st => cut b5 w5 hlt h3 h4 st⟩
    · have hge : i = len := by simp at h2; omega
      exact .leaf ⟨rfl, fun b4 w4 st => fin hge b4 w4 st⟩
end Go.Ev
end
section
set_option maxRecDepth 100000
set_option linter.unusedVariables false
namespace Go.Ev
open Go.Proofs Go.RowKit
theorem zC_conv {ρ0 : Emb} {w : World} {n : Nat} {s : List Nat} {vs : List SV} {b1 : Act} {w1 : World} (st : StL ρ0 w n (s.zip vs) [zC] b1 w1) : StL ρ0 w n (s.zip vs) [zB] b1 w1 := st.conv rfl rfl
theorem zC_conv2 {ρ0 : Emb} {w : World} {n : Nat} {s : List Nat} {vs : List SV} {o : SObj} {b1 : Act} {w1 : World} (st : StL ρ0 w n (s.zip vs) [zC, o] b1 w1) : StL ρ0 w n (s.zip vs) [zB, o] b1 w1 :=
  st.conv rfl (by simp only [List.map_cons, zC_den])
theorem frG_spec {chk : SetD → List OpD → Int} {g : SetD} {ops : List OpD} (h : frG chk g ops = true) (h0 : chk g ops = 0) : sumN ops ≤ 1000000000 ∧ ops.length ≤ 400 := by
  unfold frG at h
  rw [h0] at h
  simpa using h
theorem fg_arr0 (g : SetD) (len : Nat) (k s : Nat → Int) (b : Nat → ByteArray) (n : Nat → Int) {ρ0 : Emb} {w : World} {args' : Array Value} (hlen : len ≤ 70368744177664) (hG : frG (checkR csV opV) g (opsL len k s b n) = true) (hro : ∀ i g, ρ0 i = .img g → g.rw = false)
    (wr : WRel ρ0 (mkH [opsO len k s b n]).den w) (ra : VsRel ρ0 (dens [scrS g (slO len), nilO]) args'.toList) :
    Calls E6.P 9 args' w (FrEnd ρ0 w (fragR (checkR csV opV) g (opsL len k s b n) [])) := by
  refine calls_StL fgF_some fgC_some fgF_n (by decide) (by simp) wr ra fun bb st => ?_
  refine StL.preD sound6 thom6 1000 4 (by decide) fgC_plans (by kernel_rfl) (fg_pre0 g len k s b n) st ?_
  refine Holds.yesB (bleQ len) (Holds.yesB (Nat.ble_eq_true_of_le hlen) (Holds.node (fun h0 => ?_) fun h0 => ?_))
  · have h0 : checkR csV opV g (opsL len k s b n) ≠ 0 := by simpa using h0
    exact .leaf ⟨rfl, fun b1 w1 st => fg_end0 zSet _ _ b1 w1 (zC_conv (s := [5, 4]) st) (by rw [fragR, if_pos h0])⟩
  have hck : checkR csV opV g (opsL len k s b n) = 0 := by simpa using h0
  have hnk : ¬ checkR csV opV g (opsL len k s b n) ≠ 0 := by simp [hck]
  obtain ⟨hsum, hl4⟩ := frG_spec hG hck
  rw [opsL_length] at hl4
  refine (Holds.node (fun h1 => ?_) fun h1 => ?_)
  · have h1 : 0 ≤ lowQ 0 [] := by simpa using h1
    exact .leaf ⟨rfl, fun b1 w1 st => fg_end0 zSet _ _ b1 w1 (zC_conv (s := [5, 4]) st) (by rw [fragR, if_neg hnk, if_pos h1])⟩
  have hlow : lowQ 0 [] < 0 := by
    have : ¬ lowQ 0 [] ≥ 0 := by simpa using h1
    omega
  have hnl : ¬ 0 ≤ lowQ 0 [] := by omega
  refine .leaf ⟨rfl, fun b1 w1 st => ?_⟩
  show Code.wp E6.P (postC 5 fgC) (bodyPostD E6.P fgF _) b1 w1
  refine wp_seqP (by kernel_rfl) ?_
  refine wp_seqP (by kernel_rfl) ?_
  refine StL.pieceD sound6 thom6 1000 (by decide) (by kernel_rfl) (fg_r80 g len k s b n) st ?_
  refine Holds.leaf ⟨rfl, fun b2 w2 st => ?_⟩
  show Code.wp E6.P (seqR (seqL (postC 5 fgC))) _ b2 w2
  refine fg_loop0 g len k s b n hl4 hsum (fun b3 w3 st => ?_) b2 w2 (st.conv rfl rfl)
  show Code.wp E6.P (seqR (postC 5 fgC)) _ b3 w3
  cases hq : fragQ [] 0 (opsL len k s b n) with
  | nil =>
    rw [hq] at st
    refine StL.pieceD sound6 thom6 1000 (by decide) (by kernel_rfl) (fg_fin0 g) st ?_
    exact Holds.leaf ⟨rfl, fun b4 w4 st => fg_end0 g 0 true b4 w4 st (by rw [fragR, if_neg hnk, if_neg hnl, hq]; rfl)⟩
  | cons p L =>
    rw [hq] at st
    refine StL.pieceD sound6 thom6 1000 (by decide) (by kernel_rfl) (fg_fin1 g (p :: L).length (fk (p :: L)) (fs (p :: L)) (fb (p :: L)) (fn (p :: L))) st ?_
    refine Holds.node (fun h2 => ?_) fun h2 => ?_
    · have h2 : 400 < (p :: L).length := by
        have : (((p :: L).length : Nat) : Int) > 400 := by simpa using h2
        omega
      exact .leaf ⟨rfl, fun b4 w4 st => fg_end2 zSet 6 true (p :: L).length (fk (p :: L)) (fs (p :: L)) (fb (p :: L)) (fn (p :: L)) b4 w4 (zC_conv2 (s := [5, 4]) st) (by rw [fragR, if_neg hnk, if_neg hnl, hq, if_pos h2])⟩
    · have h2 : ¬ 400 < (p :: L).length := by
        have : ¬ (((p :: L).length : Nat) : Int) > 400 := by simpa using h2
        omega
      exact .leaf ⟨rfl, fun b4 w4 st => fg_end1 g 0 true p L b4 w4 st (by rw [fragR, if_neg hnk, if_neg hnl, hq, if_neg h2])⟩
theorem fg_nil0 (g : SetD) {ρ0 : Emb} {w : World} {args' : Array Value} (hro : ∀ i g, ρ0 i = .img g → g.rw = false)
    (wr : WRel ρ0 (mkH []).den w) (ra : VsRel ρ0 (dens [scrS g nilO, nilO]) args'.toList) :
    Calls E6.P 9 args' w (FrEnd ρ0 w (fragR (checkR csV opV) g [] [])) := by
  refine calls_StL fgF_some fgC_some fgF_n (by decide) (by simp) wr ra fun bb st => ?_
  refine StL.pieceD sound6 thom6 1000 (by decide) fgC_plans (fg_z0 g) st ?_
  refine Holds.node (fun h0 => ?_) fun h0 => ?_
  · have h0 : checkR csV opV g [] ≠ 0 := by simpa using h0
    exact .leaf ⟨rfl, fun b1 w1 st => fg_end0 zSet _ _ b1 w1 (zC_conv (s := [5, 4]) st) (by rw [fragR, if_pos h0])⟩
  have hck : checkR csV opV g [] = 0 := by simpa using h0
  have hnk : ¬ checkR csV opV g [] ≠ 0 := by simp [hck]
  refine (Holds.node (fun h1 => ?_) fun h1 => ?_)
  · have h1 : 0 ≤ lowQ 0 [] := by simpa using h1
    exact .leaf ⟨rfl, fun b1 w1 st => fg_end0 zSet _ _ b1 w1 (zC_conv (s := [5, 4]) st) (by rw [fragR, if_neg hnk, if_pos h1])⟩
  · have hnl : ¬ 0 ≤ lowQ 0 [] := by
      have : ¬ lowQ 0 [] ≥ 0 := by simpa using h1
      omega
    exact .leaf ⟨rfl, fun b1 w1 st => fg_end0 g 0 true b1 w1 st (by rw [fragR, if_neg hnk, if_neg hnl]; rfl)⟩
theorem fg_arr1 (g : SetD) (len : Nat) (k s : Nat → Int) (b : Nat → ByteArray) (n : Nat → Int) (c : Nat) (f : Nat → Int) {ρ0 : Emb} {w : World} {args' : Array Value} (hlen : len ≤ 70368744177664) (hcl : c ≤ 70368744177664) (hG : frG (checkR csV opV) g (opsL len k s b n) = true) (hro : ∀ i g, ρ0 i = .img g → g.rw = false)
    (wr : WRel ρ0 (mkH [opsO len k s b n, intsO c f]).den w) (ra : VsRel ρ0 (dens [scrS g (slO len), slI 1 c]) args'.toList) :
    Calls E6.P 9 args' w (FrEnd ρ0 w (fragR (checkR csV opV) g (opsL len k s b n) (intL c f))) := by
  refine calls_StL fgF_some fgC_some fgF_n (by decide) (by simp) wr ra fun bb st => ?_
  refine StL.preD sound6 thom6 1000 4 (by decide) fgC_plans (by kernel_rfl) (fg_pre1 g len k s b n c f) st ?_
  refine Holds.yesB (bleQ len) (Holds.yesB (Nat.ble_eq_true_of_le hlen) (Holds.node (fun h0 => ?_) fun h0 => ?_))
  · have h0 : checkR csV opV g (opsL len k s b n) ≠ 0 := by simpa using h0
    exact .leaf ⟨rfl, fun b1 w1 st => fg_end0 zSet _ _ b1 w1 (zC_conv (s := [5, 4]) st) (by rw [fragR, if_pos h0])⟩
  have hck : checkR csV opV g (opsL len k s b n) = 0 := by simpa using h0
  have hnk : ¬ checkR csV opV g (opsL len k s b n) ≠ 0 := by simp [hck]
  obtain ⟨hsum, hl4⟩ := frG_spec hG hck
  rw [opsL_length] at hl4
  refine Holds.yesB (bleB c) (Holds.yesB (Nat.ble_eq_true_of_le hcl) (Holds.node (fun h1 => ?_) fun h1 => ?_))
  · have h1 : 0 ≤ lowQ 0 (intL c f) := by simpa using h1
    exact .leaf ⟨rfl, fun b1 w1 st => fg_end0 zSet _ _ b1 w1 (zC_conv (s := [5, 4]) st) (by rw [fragR, if_neg hnk, if_pos h1])⟩
  have hlow : lowQ 0 (intL c f) < 0 := by
    have : ¬ lowQ 0 (intL c f) ≥ 0 := by simpa using h1
    omega
  have hnl : ¬ 0 ≤ lowQ 0 (intL c f) := by omega
  refine .leaf ⟨rfl, fun b1 w1 st => ?_⟩
  show Code.wp E6.P (postC 5 fgC) (bodyPostD E6.P fgF _) b1 w1
  refine wp_seqP (by kernel_rfl) ?_
  refine wp_seqP (by kernel_rfl) ?_
  refine StL.pieceD sound6 thom6 1000 (by decide) (by kernel_rfl) (fg_r81 g len k s b n c f) st ?_
  refine Holds.leaf ⟨rfl, fun b2 w2 st => ?_⟩
  show Code.wp E6.P (seqR (seqL (postC 5 fgC))) _ b2 w2
  refine fg_loop1 g len k s b n c f hlow hl4 hsum (fun b3 w3 st => ?_) b2 w2 (st.conv rfl rfl)
  show Code.wp E6.P (seqR (postC 5 fgC)) _ b3 w3
  cases hq : fragQ (intL c f) 0 (opsL len k s b n) with
  | nil =>
    rw [hq] at st
    refine StL.pieceD sound6 thom6 1000 (by decide) (by kernel_rfl) (fg_fin0 g) st ?_
    exact Holds.leaf ⟨rfl, fun b4 w4 st => fg_end0 g 0 true b4 w4 st (by rw [fragR, if_neg hnk, if_neg hnl, hq]; rfl)⟩
  | cons p L =>
    rw [hq] at st
    refine StL.pieceD sound6 thom6 1000 (by decide) (by kernel_rfl) (fg_fin1 g (p :: L).length (fk (p :: L)) (fs (p :: L)) (fb (p :: L)) (fn (p :: L))) st ?_
    refine Holds.node (fun h2 => ?_) fun h2 => ?_
    · have h2 : 400 < (p :: L).length := by
        have : (((p :: L).length : Nat) : Int) > 400 := by simpa using h2
        omega
      exact .leaf ⟨rfl, fun b4 w4 st => fg_end2 zSet 6 true (p :: L).length (fk (p :: L)) (fs (p :: L)) (fb (p :: L)) (fn (p :: L)) b4 w4 (zC_conv2 (s := [5, 4]) st) (by rw [fragR, if_neg hnk, if_neg hnl, hq, if_pos h2])⟩
    · have h2 : ¬ 400 < (p :: L).length := by
        have : ¬ (((p :: L).length : Nat) : Int) > 400 := by simpa using h2
        omega
      exact .leaf ⟨rfl, fun b4 w4 st => fg_end1 g 0 true p L b4 w4 st (by rw [fragR, if_neg hnk, if_neg hnl, hq, if_neg h2])⟩
theorem fg_nil1 (g : SetD) (c : Nat) (f : Nat → Int) {ρ0 : Emb} {w : World} {args' : Array Value} (hcl : c ≤ 70368744177664) (hro : ∀ i g, ρ0 i = .img g → g.rw = false)
    (wr : WRel ρ0 (mkH [intsO c f]).den w) (ra : VsRel ρ0 (dens [scrS g nilO, slI 0 c]) args'.toList) :
    Calls E6.P 9 args' w (FrEnd ρ0 w (fragR (checkR csV opV) g [] (intL c f))) := by
  refine calls_StL fgF_some fgC_some fgF_n (by decide) (by simp) wr ra fun bb st => ?_
  refine StL.pieceD sound6 thom6 1000 (by decide) fgC_plans (fg_z1 g c f) st ?_
  refine Holds.node (fun h0 => ?_) fun h0 => ?_
  · have h0 : checkR csV opV g [] ≠ 0 := by simpa using h0
    exact .leaf ⟨rfl, fun b1 w1 st => fg_end0 zSet _ _ b1 w1 (zC_conv (s := [5, 4]) st) (by rw [fragR, if_pos h0])⟩
  have hck : checkR csV opV g [] = 0 := by simpa using h0
  have hnk : ¬ checkR csV opV g [] ≠ 0 := by simp [hck]
  refine Holds.yesB (bleB c) (Holds.yesB (Nat.ble_eq_true_of_le hcl) (Holds.node (fun h1 => ?_) fun h1 => ?_))
  · have h1 : 0 ≤ lowQ 0 (intL c f) := by simpa using h1
    exact .leaf ⟨rfl, fun b1 w1 st => fg_end0 zSet _ _ b1 w1 (zC_conv (s := [5, 4]) st) (by rw [fragR, if_neg hnk, if_pos h1])⟩
  · have hnl : ¬ 0 ≤ lowQ 0 (intL c f) := by
      have : ¬ lowQ 0 (intL c f) ≥ 0 := by simpa using h1
      omega
    exact .leaf ⟨rfl, fun b1 w1 st => fg_end0 g 0 true b1 w1 st (by rw [fragR, if_neg hnk, if_neg hnl]; rfl)⟩
theorem tab_fg : TabOK Tryz.prog 9 (frA (frG (checkR csV opV)) (fragR (checkR csV opV))) :=
  fr_tab (fun g ρ w args' _ hro wr ra => fg_nil0 g hro wr ra) (fun g m fv ρ w args' hm _ hro wr ra => fg_nil1 g m fv hm hro wr ra) (fun g len k s b n ρ w args' hl hG hro wr ra => fg_arr0 g len k s b n hl hG hro wr ra)
    (fun g len k s b n m fv ρ w args' hl hm hG hro wr ra => fg_arr1 g len k s b n m fv hl hm hG hro wr ra)
end Go.Ev
end
section
set_option maxRecDepth 100000
set_option linter.unusedVariables false
namespace Go.Ev
open Go.Proofs Go.RowKit
/-! bagatelleref10.Fragment -/
noncomputable def rgC : Code := match Tryz.prog.funcs[10]? with | some fn => fn.body.getD .skip | none => .skip
noncomputable def rgF : Func := match Tryz.prog.funcs[10]? with | some fn => fn | none => default
theorem rgF_some : Tryz.prog.funcs[10]? = some rgF := by kernel_rfl
theorem rgC_some : rgF.body = some rgC := by kernel_rfl
theorem rgF_n : rgF.ntmps = 99 := by kernel_rfl
theorem rgC_plans : plansIn rgC = true := by kernel_rfl
noncomputable abbrev rgA : Code := loopB (blockB (seqR (seqL (postC 2 rgC))))
noncomputable abbrev rgB : Code := loopB (blockB (seqR (seqL (postC 5 rgC))))
noncomputable abbrev rgB1 : Code := blockB (seqL (postC 1 rgB))
noncomputable abbrev rgB2 : Code := loopB (blockB (postC 3 rgB1))
/-- Where the next piece is cut, as the code says it. -/
noncomputable abbrev rtN (f : Nat → Int) (x c : Nat) (t : ByteArray) : Int := bif decide (ctX f x c < (t.size : Int)) then ctX f x c else (t.size : Int)
theorem rg_pre0 (g : SetD) (len : Nat) (k s : Nat → Int) (b : Nat → ByteArray) (n : Nat → Int) (j : Nat → Value) : (evalS E6 S6 1000 (preC 2 rgC) (mkA 99 (argL [scrS g (slO len), nilO]) j) (mkH [opsO len k s b n])).mapO (viewD 99 (vselD ⟨[1, 2, 4], [.id 0, .of 4, .of 2]⟩ ⟨[5, 4], [.of 4]⟩ ⟨[], []⟩)) =
    .node ((Nat.div 0 4 + len).ble len) (.node (len.ble 70368744177664) (.node ((checkQ r9V oneV g (opsL len k s b n)) != 0) (.leaf ⟨.ret, [.int .i64 false (checkQ r9V oneV g (opsL len k s b n)), .ptr 0 (.c 0)], [zC]⟩)
      (.leaf ⟨.normal, [nilO, .ptr 2 (.c 0), .ptr 1 (.c 0)], [opsO len k s b n, zC, scB g (slO len)]⟩)) .fail) .fail := by kernel_rfl
theorem rg_a0 (g : SetD) (len : Nat) (k s : Nat → Int) (b : Nat → ByteArray) (n : Nat → Int) (j : Nat → Value) : (evalS E6 S6 1000 (seqL (postC 2 rgC)) (mkA 99 ([1, 2, 4].zip [nilO, .ptr 2 (.c 0), .ptr 1 (.c 0)]) j) (mkH [opsO len k s b n, zC, scB g (slO len)])).mapO (viewD 99 (vselD ⟨[1, 2, 4], [.fld 2 11, .of 4, .of 2]⟩ ⟨[], []⟩ ⟨[], []⟩)) =
    .leaf ⟨.normal, [nilO, .ptr 2 (.c 0), .ptr 1 (.c 0)], [opsO len k s b n, zC, scB g (slO len)]⟩ := by kernel_rfl
theorem rg_mid0 (g : SetD) (len : Nat) (k s : Nat → Int) (b : Nat → ByteArray) (n : Nat → Int) (j : Nat → Value) : (evalS E6 S6 1000 (preC 2 (postC 3 rgC)) (mkA 99 ([1, 2, 4].zip [nilO, .ptr 2 (.c 0), .ptr 1 (.c 0)]) j) (mkH [opsO len k s b n, zC, scB g (slO len)])).mapO (viewD 99 (vselD ⟨[1, 2, 4, 8, 9], [.fld 2 11, .of 4, .of 2, .of 8]⟩ ⟨[], []⟩ ⟨[], []⟩)) =
    .leaf ⟨.normal, [nilO, .ptr 2 (.c 0), .ptr 1 (.c 0), .ptr 3 (.c 0), .int .i64 true 0], [opsO len k s b n, zC, scB g (slO len), scB g nilO]⟩ := by kernel_rfl
theorem rg_r110 (g : SetD) (len : Nat) (k s : Nat → Int) (b : Nat → ByteArray) (n : Nat → Int) (j : Nat → Value) : (evalS E6 S6 1000 (seqL (seqL (postC 5 rgC))) (mkA 99 ([1, 2, 4, 8, 9].zip [nilO, .ptr 2 (.c 0), .ptr 1 (.c 0), .ptr 3 (.c 0), .int .i64 true 0]) j) (mkH [opsO len k s b n, zC, scB g (slO len), scB g nilO])).mapO (viewD 99 (vselD ⟨[1, 2, 4, 8, 9, 10], [.fld 2 11, .of 4, .of 2, .of 8]⟩ ⟨[], []⟩ ⟨[], []⟩)) =
    .leaf ⟨.normal, [nilO, .ptr 2 (.c 0), .ptr 1 (.c 0), .ptr 3 (.c 0), .int .i64 true 0, .int .i64 true 0], [opsO len k s b n, zC, scB g (slO len), scB g nilO]⟩ := by kernel_rfl
theorem rg_z0 (g : SetD) (j : Nat → Value) : (evalS E6 S6 1000 rgC (mkA 99 (argL [scrS g nilO, nilO]) j) (mkH [])).mapO (viewD 99 (vselD ⟨[], []⟩ ⟨[5, 4], [.of 4]⟩ ⟨[], []⟩)) =
    .node ((checkQ r9V oneV g []) != 0) (.leaf ⟨.ret, [.int .i64 false (checkQ r9V oneV g []), .ptr 0 (.c 0)], [zC]⟩) (.leaf ⟨.ret, [.int .i64 true 0, .ptr 0 (.c 0)], [scB g nilO]⟩) := by kernel_rfl
theorem rg_pre1 (g : SetD) (len : Nat) (k s : Nat → Int) (b : Nat → ByteArray) (n : Nat → Int) (c : Nat) (f : Nat → Int) (j : Nat → Value) : (evalS E6 S6 1000 (preC 2 rgC) (mkA 99 (argL [scrS g (slO len), slI 1 c]) j) (mkH [opsO len k s b n, intsO c f])).mapO (viewD 99 (vselD ⟨[1, 2, 4], [.id 0, .of 4, .of 2, .id 1]⟩ ⟨[5, 4], [.of 4]⟩ ⟨[], []⟩)) =
    .node ((Nat.div 0 4 + len).ble len) (.node (len.ble 70368744177664) (.node ((checkQ r9V oneV g (opsL len k s b n)) != 0) (.leaf ⟨.ret, [.int .i64 false (checkQ r9V oneV g (opsL len k s b n)), .ptr 0 (.c 0)], [zC]⟩)
      (.leaf ⟨.normal, [slI 3 c, .ptr 2 (.c 0), .ptr 1 (.c 0)], [opsO len k s b n, zC, scB g (slO len), intsO c f]⟩)) .fail) .fail := by kernel_rfl
theorem rg_r4 (g : SetD) (len : Nat) (k s : Nat → Int) (b : Nat → ByteArray) (n : Nat → Int) (c : Nat) (f : Nat → Int) (j : Nat → Value) : (evalS E6 S6 1000 (seqL (seqL (postC 2 rgC))) (mkA 99 ([1, 2, 4].zip [slI 3 c, .ptr 2 (.c 0), .ptr 1 (.c 0)]) j) (mkH [opsO len k s b n, zC, scB g (slO len), intsO c f])).mapO (viewD 99 (vselD ⟨[1, 2, 4, 7], [.fld 2 11, .of 4, .of 2, .of 1]⟩ ⟨[], []⟩ ⟨[], []⟩)) =
    .leaf ⟨.normal, [slI 3 c, .ptr 2 (.c 0), .ptr 1 (.c 0), .int .i64 true 0], [opsO len k s b n, zC, scB g (slO len), intsO c f]⟩ := by kernel_rfl
theorem rg_a (g : SetD) (len : Nat) (k s : Nat → Int) (b : Nat → ByteArray) (n : Nat → Int) (c : Nat) (f : Nat → Int) (i : Nat) (j : Nat → Value) : (evalS E6 S6 1000 rgA (mkA 99 ([1, 2, 4, 7].zip [slI 3 c, .ptr 2 (.c 0), .ptr 1 (.c 0), .int .i64 false (i : Int)]) j) (mkH [opsO len k s b n, zC, scB g (slO len), intsO c f])).mapO (viewD 99 (vselD ⟨[1, 2, 4, 7], [.fld 2 11, .of 4, .of 2, .of 1]⟩ ⟨[5, 4], [.of 4]⟩ ⟨[1, 2, 4], [.fld 2 11, .of 4, .of 2, .of 1]⟩)) =
    .node (decide ((i : Int) < (c : Int))) (.node (decide ((0 : Int) ≤ (i : Int)) && (i : Int).toNat.blt c) (.node (i.blt c) (.node (decide (f i < 1)) (.leaf ⟨.ret, [.int .i64 true 3, .ptr 0 (.c 0)], [zC]⟩)
      (.leaf ⟨.normal, [slI 3 c, .ptr 2 (.c 0), .ptr 1 (.c 0), .int .i64 false (IntKind.i64.wrap ((i : Int) + 1))], [opsO len k s b n, zC, scB g (slO len), intsO c f]⟩)) .fail) .fail)
      (.leaf ⟨.exit 0, [slI 3 c, .ptr 2 (.c 0), .ptr 1 (.c 0)], [opsO len k s b n, zC, scB g (slO len), intsO c f]⟩) := by kernel_rfl
theorem rg_mid1 (g : SetD) (len : Nat) (k s : Nat → Int) (b : Nat → ByteArray) (n : Nat → Int) (c : Nat) (f : Nat → Int) (j : Nat → Value) : (evalS E6 S6 1000 (preC 2 (postC 3 rgC)) (mkA 99 ([1, 2, 4].zip [slI 3 c, .ptr 2 (.c 0), .ptr 1 (.c 0)]) j) (mkH [opsO len k s b n, zC, scB g (slO len), intsO c f])).mapO (viewD 99 (vselD ⟨[1, 2, 4, 8, 9], [.fld 2 11, .of 4, .of 2, .of 8, .of 1]⟩ ⟨[], []⟩ ⟨[], []⟩)) =
    .leaf ⟨.normal, [slI 4 c, .ptr 2 (.c 0), .ptr 1 (.c 0), .ptr 3 (.c 0), .int .i64 true 0], [opsO len k s b n, zC, scB g (slO len), scB g nilO, intsO c f]⟩ := by kernel_rfl
theorem rg_r111 (g : SetD) (len : Nat) (k s : Nat → Int) (b : Nat → ByteArray) (n : Nat → Int) (c : Nat) (f : Nat → Int) (j : Nat → Value) : (evalS E6 S6 1000 (seqL (seqL (postC 5 rgC))) (mkA 99 ([1, 2, 4, 8, 9].zip [slI 4 c, .ptr 2 (.c 0), .ptr 1 (.c 0), .ptr 3 (.c 0), .int .i64 true 0]) j) (mkH [opsO len k s b n, zC, scB g (slO len), scB g nilO, intsO c f])).mapO (viewD 99 (vselD ⟨[1, 2, 4, 8, 9, 10], [.fld 2 11, .of 4, .of 2, .of 8, .of 1]⟩ ⟨[], []⟩ ⟨[], []⟩)) =
    .leaf ⟨.normal, [slI 4 c, .ptr 2 (.c 0), .ptr 1 (.c 0), .ptr 3 (.c 0), .int .i64 true 0, .int .i64 true 0], [opsO len k s b n, zC, scB g (slO len), scB g nilO, intsO c f]⟩ := by kernel_rfl
theorem rg_zpre1 (g : SetD) (c : Nat) (f : Nat → Int) (j : Nat → Value) : (evalS E6 S6 1000 (preC 2 rgC) (mkA 99 (argL [scrS g nilO, slI 0 c]) j) (mkH [intsO c f])).mapO (viewD 99 (vselD ⟨[1, 2, 4], [.of 4, .of 2, .of 1]⟩ ⟨[5, 4], [.of 4]⟩ ⟨[], []⟩)) =
    .node ((checkQ r9V oneV g []) != 0) (.leaf ⟨.ret, [.int .i64 false (checkQ r9V oneV g []), .ptr 0 (.c 0)], [zC]⟩) (.leaf ⟨.normal, [slI 2 c, .ptr 1 (.c 0), .ptr 0 (.c 0)], [zC, scB g nilO, intsO c f]⟩) := by kernel_rfl
theorem rg_zr4 (g : SetD) (c : Nat) (f : Nat → Int) (j : Nat → Value) : (evalS E6 S6 1000 (seqL (seqL (postC 2 rgC))) (mkA 99 ([1, 2, 4].zip [slI 2 c, .ptr 1 (.c 0), .ptr 0 (.c 0)]) j) (mkH [zC, scB g nilO, intsO c f])).mapO (viewD 99 (vselD ⟨[1, 2, 4, 7], [.of 4, .of 2, .of 1]⟩ ⟨[], []⟩ ⟨[], []⟩)) =
    .leaf ⟨.normal, [slI 2 c, .ptr 1 (.c 0), .ptr 0 (.c 0), .int .i64 true 0], [zC, scB g nilO, intsO c f]⟩ := by kernel_rfl
theorem rg_za (g : SetD) (c : Nat) (f : Nat → Int) (i : Nat) (j : Nat → Value) : (evalS E6 S6 1000 rgA (mkA 99 ([1, 2, 4, 7].zip [slI 2 c, .ptr 1 (.c 0), .ptr 0 (.c 0), .int .i64 false (i : Int)]) j) (mkH [zC, scB g nilO, intsO c f])).mapO (viewD 99 (vselD ⟨[1, 2, 4, 7], [.of 4, .of 2, .of 1]⟩ ⟨[5, 4], [.of 4]⟩ ⟨[1, 2, 4], [.of 4, .of 2, .of 1]⟩)) =
    .node (decide ((i : Int) < (c : Int))) (.node (decide ((0 : Int) ≤ (i : Int)) && (i : Int).toNat.blt c) (.node (i.blt c) (.node (decide (f i < 1)) (.leaf ⟨.ret, [.int .i64 true 3, .ptr 0 (.c 0)], [zC]⟩)
      (.leaf ⟨.normal, [slI 2 c, .ptr 1 (.c 0), .ptr 0 (.c 0), .int .i64 false (IntKind.i64.wrap ((i : Int) + 1))], [zC, scB g nilO, intsO c f]⟩)) .fail) .fail)
      (.leaf ⟨.exit 0, [slI 2 c, .ptr 1 (.c 0), .ptr 0 (.c 0)], [zC, scB g nilO, intsO c f]⟩) := by kernel_rfl
theorem rg_zfin (g : SetD) (c : Nat) (f : Nat → Int) (j : Nat → Value) : (evalS E6 S6 1000 (postC 3 rgC) (mkA 99 ([1, 2, 4].zip [slI 2 c, .ptr 1 (.c 0), .ptr 0 (.c 0)]) j) (mkH [zC, scB g nilO, intsO c f])).mapO (viewD 99 (vselD ⟨[], []⟩ ⟨[5, 4], [.of 4]⟩ ⟨[], []⟩)) =
    .leaf ⟨.ret, [.int .i64 true 0, .ptr 0 (.c 0)], [scB g nilO]⟩ := by kernel_rfl
theorem rg_c1_00 (g : SetD) (len : Nat) (k s : Nat → Int) (b : Nat → ByteArray) (n : Nat → Int) (x i : Nat) (j : Nat → Value) : (evalS E6 S6 1000 (preC 1 rgB) (mkA 99 ([1, 2, 4, 8, 9, 10].zip [nilO, .ptr 2 (.c 0), .ptr 1 (.c 0), .ptr 3 (.c 0), .int .i64 false (x : Int), .int .i64 false (i : Int)]) j) (mkH [opsO len k s b n, zB, scB g (slO len), scB g (nilO)])).mapO (viewD 99 (vselD ⟨[1, 2, 4, 8, 9, 10], [.fld 2 11, .of 4, .of 2, .of 8]⟩ ⟨[], []⟩ ⟨[4, 8], [.of 4, .of 8]⟩)) =
    .node (decide ((i : Int) < (len : Int))) (.leaf ⟨.normal, [nilO, .ptr 2 (.c 0), .ptr 1 (.c 0), .ptr 3 (.c 0), .int .i64 false (x : Int), .int .i64 false (i : Int)], [opsO len k s b n, zB, scB g (slO len), scB g (nilO)]⟩) (.leaf ⟨.exit 2, [.ptr 0 (.c 0), .ptr 1 (.c 0)], [zB, scB g (nilO)]⟩) := by kernel_rfl
theorem rg_c2_00 (g : SetD) (len : Nat) (k s : Nat → Int) (b : Nat → ByteArray) (n : Nat → Int) (x i : Nat) (j : Nat → Value) : (evalS E6 S6 1000 (preC 3 rgB1) (mkA 99 ([1, 2, 4, 8, 9, 10].zip [nilO, .ptr 2 (.c 0), .ptr 1 (.c 0), .ptr 3 (.c 0), .int .i64 false (x : Int), .int .i64 false (i : Int)]) j) (mkH [opsO len k s b n, zB, scB g (slO len), scB g (nilO)])).mapO (viewD 99 (vselD ⟨[1, 2, 4, 8, 9, 10, 11, 12], [.fld 2 11, .of 4, .of 2, .of 8, .of 11]⟩ ⟨[], []⟩ ⟨[1, 2, 4, 8, 9, 10], [.fld 2 11, .of 4, .of 2, .of 8, .fld 8 11]⟩)) =
    .node (decide ((0 : Int) ≤ (i : Int)) && (i : Int).toNat.blt len) (.node (i.blt len) (.leaf ⟨.exit 3, [nilO, .ptr 2 (.c 0), .ptr 1 (.c 0), .ptr 3 (.c 0), .int .i64 false (x : Int), .int .i64 false (i : Int)], [opsO len k s b n, zB, scB g (slO len), scB g (.sl 4 (.c 0) ⟨true, 1⟩ 4), .cells (opRow ⟨k i, s i, b i, n i⟩ false) true]⟩) .fail) .fail := by kernel_rfl
theorem rg_r13_00 (g : SetD) (len : Nat) (k s : Nat → Int) (b : Nat → ByteArray) (n : Nat → Int) (x i : Nat) (j : Nat → Value) : (evalS E6 S6 1000 (seqR (postC 1 rgB)) (mkA 99 ([1, 2, 4, 8, 9, 10].zip [nilO, .ptr 2 (.c 0), .ptr 1 (.c 0), .ptr 3 (.c 0), .int .i64 false (x : Int), .int .i64 false (i : Int)]) j) (mkH [opsO len k s b n, zB, scB g (slO len), scB g (nilO)])).mapO (viewD 99 (vselD ⟨[1, 2, 4, 8, 9, 10], [.fld 2 11, .of 4, .of 2, .of 8]⟩ ⟨[], []⟩ ⟨[], []⟩)) =
    .leaf ⟨.normal, [nilO, .ptr 2 (.c 0), .ptr 1 (.c 0), .ptr 3 (.c 0), .int .i64 false (x : Int), .int .i64 false (IntKind.i64.wrap ((i : Int) + 1))], [opsO len k s b n, zB, scB g (slO len), scB g (nilO)]⟩ := by kernel_rfl
theorem rg_c1_01 (g : SetD) (len : Nat) (k s : Nat → Int) (b : Nat → ByteArray) (n : Nat → Int) (x i : Nat) (M : Nat) (K S : Nat → Int) (B : Nat → ByteArray) (N : Nat → Int) (j : Nat → Value) : (evalS E6 S6 1000 (preC 1 rgB) (mkA 99 ([1, 2, 4, 8, 9, 10].zip [nilO, .ptr 2 (.c 0), .ptr 1 (.c 0), .ptr 3 (.c 0), .int .i64 false (x : Int), .int .i64 false (i : Int)]) j) (mkH [opsO len k s b n, zB, scB g (slO len), scB g (slA 4 M), outA M K S B N])).mapO (viewD 99 (vselD ⟨[1, 2, 4, 8, 9, 10], [.fld 2 11, .of 4, .of 2, .of 8, .fld 8 11]⟩ ⟨[], []⟩ ⟨[4, 8], [.of 4, .of 8, .fld 8 11]⟩)) =
    .node (decide ((i : Int) < (len : Int))) (.leaf ⟨.normal, [nilO, .ptr 2 (.c 0), .ptr 1 (.c 0), .ptr 3 (.c 0), .int .i64 false (x : Int), .int .i64 false (i : Int)], [opsO len k s b n, zB, scB g (slO len), scB g (slA 4 M), outA M K S B N]⟩) (.leaf ⟨.exit 2, [.ptr 0 (.c 0), .ptr 1 (.c 0)], [zB, scB g (slA 2 M), outA M K S B N]⟩) := by kernel_rfl
theorem rg_c2_01 (g : SetD) (len : Nat) (k s : Nat → Int) (b : Nat → ByteArray) (n : Nat → Int) (x i : Nat) (M : Nat) (K S : Nat → Int) (B : Nat → ByteArray) (N : Nat → Int) (j : Nat → Value) : (evalS E6 S6 1000 (preC 3 rgB1) (mkA 99 ([1, 2, 4, 8, 9, 10].zip [nilO, .ptr 2 (.c 0), .ptr 1 (.c 0), .ptr 3 (.c 0), .int .i64 false (x : Int), .int .i64 false (i : Int)]) j) (mkH [opsO len k s b n, zB, scB g (slO len), scB g (slA 4 M), outA M K S B N])).mapO (viewD 99 (vselD ⟨[1, 2, 4, 8, 9, 10, 11, 12], [.fld 2 11, .of 4, .of 2, .of 8, .fld 8 11, .of 11]⟩ ⟨[], []⟩ ⟨[1, 2, 4, 8, 9, 10], [.fld 2 11, .of 4, .of 2, .of 8, .fld 8 11]⟩)) =
    .node (decide ((0 : Int) ≤ (i : Int)) && (i : Int).toNat.blt len) (.node (i.blt len) (.node ((M + 1).ble 70368744177664 && capRoom (M + 1) 40) (.node ((Nat.div 0 4 + M).ble M) (.leaf ⟨.exit 3, [nilO, .ptr 2 (.c 0), .ptr 1 (.c 0), .ptr 3 (.c 0), .int .i64 false (x : Int), .int .i64 false (i : Int)], [opsO len k s b n, zB, scB g (slO len), scB g (slA 4 (M + 1)), apO M K S B N (opRow ⟨k i, s i, b i, n i⟩ false)]⟩) .fail) .fail) .fail) .fail := by kernel_rfl
theorem rg_r13_01 (g : SetD) (len : Nat) (k s : Nat → Int) (b : Nat → ByteArray) (n : Nat → Int) (x i : Nat) (M : Nat) (K S : Nat → Int) (B : Nat → ByteArray) (N : Nat → Int) (j : Nat → Value) : (evalS E6 S6 1000 (seqR (postC 1 rgB)) (mkA 99 ([1, 2, 4, 8, 9, 10].zip [nilO, .ptr 2 (.c 0), .ptr 1 (.c 0), .ptr 3 (.c 0), .int .i64 false (x : Int), .int .i64 false (i : Int)]) j) (mkH [opsO len k s b n, zB, scB g (slO len), scB g (slA 4 M), outA M K S B N])).mapO (viewD 99 (vselD ⟨[1, 2, 4, 8, 9, 10], [.fld 2 11, .of 4, .of 2, .of 8, .fld 8 11]⟩ ⟨[], []⟩ ⟨[], []⟩)) =
    .leaf ⟨.normal, [nilO, .ptr 2 (.c 0), .ptr 1 (.c 0), .ptr 3 (.c 0), .int .i64 false (x : Int), .int .i64 false (IntKind.i64.wrap ((i : Int) + 1))], [opsO len k s b n, zB, scB g (slO len), scB g (slA 4 M), outA M K S B N]⟩ := by kernel_rfl
theorem rg_c1_10 (g : SetD) (len : Nat) (k s : Nat → Int) (b : Nat → ByteArray) (n : Nat → Int) (x i : Nat) (c : Nat) (f : Nat → Int) (j : Nat → Value) : (evalS E6 S6 1000 (preC 1 rgB) (mkA 99 ([1, 2, 4, 8, 9, 10].zip [slI 4 c, .ptr 2 (.c 0), .ptr 1 (.c 0), .ptr 3 (.c 0), .int .i64 false (x : Int), .int .i64 false (i : Int)]) j) (mkH [opsO len k s b n, zB, scB g (slO len), scB g (nilO), intsO c f])).mapO (viewD 99 (vselD ⟨[1, 2, 4, 8, 9, 10], [.fld 2 11, .of 4, .of 2, .of 8, .of 1]⟩ ⟨[], []⟩ ⟨[4, 8], [.of 4, .of 8]⟩)) =
    .node (decide ((i : Int) < (len : Int))) (.leaf ⟨.normal, [slI 4 c, .ptr 2 (.c 0), .ptr 1 (.c 0), .ptr 3 (.c 0), .int .i64 false (x : Int), .int .i64 false (i : Int)], [opsO len k s b n, zB, scB g (slO len), scB g (nilO), intsO c f]⟩) (.leaf ⟨.exit 2, [.ptr 0 (.c 0), .ptr 1 (.c 0)], [zB, scB g (nilO)]⟩) := by kernel_rfl
theorem rg_c2_10 (g : SetD) (len : Nat) (k s : Nat → Int) (b : Nat → ByteArray) (n : Nat → Int) (x i : Nat) (c : Nat) (f : Nat → Int) (j : Nat → Value) : (evalS E6 S6 1000 (preC 3 rgB1) (mkA 99 ([1, 2, 4, 8, 9, 10].zip [slI 4 c, .ptr 2 (.c 0), .ptr 1 (.c 0), .ptr 3 (.c 0), .int .i64 false (x : Int), .int .i64 false (i : Int)]) j) (mkH [opsO len k s b n, zB, scB g (slO len), scB g (nilO), intsO c f])).mapO (viewD 99 (vselD ⟨[1, 2, 4, 8, 9, 10, 11, 12], [.fld 2 11, .of 4, .of 2, .of 8, .of 1, .of 11]⟩ ⟨[], []⟩ ⟨[1, 2, 4, 8, 9, 10], [.fld 2 11, .of 4, .of 2, .of 8, .of 1, .fld 8 11]⟩)) =
    .node (decide ((0 : Int) ≤ (i : Int)) && (i : Int).toNat.blt len) (.node (i.blt len) (.node ((c : Int) == 0) (.leaf ⟨.exit 3, [slI 4 c, .ptr 2 (.c 0), .ptr 1 (.c 0), .ptr 3 (.c 0), .int .i64 false (x : Int), .int .i64 false (i : Int)], [opsO len k s b n, zB, scB g (slO len), scB g (.sl 5 (.c 0) ⟨true, 1⟩ 4), intsO c f, .cells (opRow ⟨k i, s i, b i, n i⟩ false) true]⟩) (.node ((b i).toList == noBytes.toList) (.leaf ⟨.exit 3, [slI 4 c, .ptr 2 (.c 0), .ptr 1 (.c 0), .ptr 3 (.c 0), .int .i64 false (x : Int), .int .i64 false (i : Int)], [opsO len k s b n, zB, scB g (slO len), scB g (.sl 5 (.c 0) ⟨true, 1⟩ 4), intsO c f, .cells (opRow ⟨k i, s i, b i, n i⟩ false) true]⟩) (.leaf ⟨.normal, [slI 4 c, .ptr 2 (.c 0), .ptr 1 (.c 0), .ptr 3 (.c 0), .int .i64 false (x : Int), .int .i64 false (i : Int), .ptr 5 (.c 0), .str false (b i)], [opsO len k s b n, zB, scB g (slO len), scB g (nilO), intsO c f, .cells (opRow ⟨k i, s i, b i, n i⟩ false) true]⟩))) .fail) .fail := by kernel_rfl
theorem rg_r13_10 (g : SetD) (len : Nat) (k s : Nat → Int) (b : Nat → ByteArray) (n : Nat → Int) (x i : Nat) (c : Nat) (f : Nat → Int) (j : Nat → Value) : (evalS E6 S6 1000 (seqR (postC 1 rgB)) (mkA 99 ([1, 2, 4, 8, 9, 10].zip [slI 4 c, .ptr 2 (.c 0), .ptr 1 (.c 0), .ptr 3 (.c 0), .int .i64 false (x : Int), .int .i64 false (i : Int)]) j) (mkH [opsO len k s b n, zB, scB g (slO len), scB g (nilO), intsO c f])).mapO (viewD 99 (vselD ⟨[1, 2, 4, 8, 9, 10], [.fld 2 11, .of 4, .of 2, .of 8, .of 1]⟩ ⟨[], []⟩ ⟨[], []⟩)) =
    .leaf ⟨.normal, [slI 4 c, .ptr 2 (.c 0), .ptr 1 (.c 0), .ptr 3 (.c 0), .int .i64 false (x : Int), .int .i64 false (IntKind.i64.wrap ((i : Int) + 1))], [opsO len k s b n, zB, scB g (slO len), scB g (nilO), intsO c f]⟩ := by kernel_rfl
theorem rg_c3_10 (g : SetD) (len : Nat) (k s : Nat → Int) (b : Nat → ByteArray) (n : Nat → Int) (x i : Nat) (c : Nat) (f : Nat → Int) (kk ss nn : Int) (bb t : ByteArray) (j : Nat → Value) : (evalS E6 S6 1000 rgB2 (mkA 99 ([1, 2, 4, 8, 9, 10, 11, 12].zip [slI 4 c, .ptr 2 (.c 0), .ptr 1 (.c 0), .ptr 3 (.c 0), .int .i64 false (x : Int), .int .i64 false (i : Int), .ptr 5 (.c 0), .str false t]) j) (mkH [opsO len k s b n, zB, scB g (slO len), scB g (nilO), intsO c f, .cells [.int .i64 false kk, .int .i64 false ss, .str false bb, .int .i64 false nn] true])).mapO (viewD 99 (vselD ⟨[1, 2, 4, 8, 9, 10, 11, 12], [.fld 2 11, .of 4, .of 2, .of 8, .of 1, .fld 8 11, .of 11]⟩ ⟨[], []⟩ ⟨[1, 2, 4, 8, 9, 10], [.fld 2 11, .of 4, .of 2, .of 8, .of 1]⟩)) =
    .node (!(t.toList == noBytes.toList)) (.node (decide ((c : Int) = 0)) .fail (.node (decide ((0 : Int) ≤ (x : Int).tmod (c : Int)) && ((x : Int).tmod (c : Int)).toNat.blt c) (.node (((x : Int).tmod (c : Int)).toNat.blt c)
      (.node (decide ((0 : Int) ≤ rtN f x c t) && (rtN f x c t).toNat.ble t.size) (.node (decide ((0 : Int) ≤ rtN f x c t) && (rtN f x c t).toNat.ble t.size) (.leaf ⟨.normal, [slI 4 c, .ptr 2 (.c 0), .ptr 1 (.c 0), .ptr 3 (.c 0), .int .i64 false (IntKind.i64.wrap ((x : Int) + 1)), .int .i64 false (i : Int), .ptr 6 (.c 0), .str false (t.extract (rtN f x c t).toNat t.size)], [opsO len k s b n, zB, scB g (slO len), scB g (.sl 5 (.c 0) ⟨true, 1⟩ 4), intsO c f, .cells [.int .i64 false kk, .int .i64 false ss, .str false (t.extract 0 (rtN f x c t).toNat), .int .i64 true 0] true, .cells [.int .i64 false kk, .int .i64 false ss, .str false bb, .int .i64 false nn] true]⟩) .fail) .fail) .fail) .fail)) (.leaf ⟨.exit 4, [slI 4 c, .ptr 2 (.c 0), .ptr 1 (.c 0), .ptr 3 (.c 0), .int .i64 false (x : Int), .int .i64 false (i : Int)], [opsO len k s b n, zB, scB g (slO len), scB g (nilO), intsO c f]⟩) := by kernel_rfl
theorem rg_c1_11 (g : SetD) (len : Nat) (k s : Nat → Int) (b : Nat → ByteArray) (n : Nat → Int) (x i : Nat) (c : Nat) (f : Nat → Int) (M : Nat) (K S : Nat → Int) (B : Nat → ByteArray) (N : Nat → Int) (j : Nat → Value) : (evalS E6 S6 1000 (preC 1 rgB) (mkA 99 ([1, 2, 4, 8, 9, 10].zip [slI 4 c, .ptr 2 (.c 0), .ptr 1 (.c 0), .ptr 3 (.c 0), .int .i64 false (x : Int), .int .i64 false (i : Int)]) j) (mkH [opsO len k s b n, zB, scB g (slO len), scB g (slA 5 M), intsO c f, outA M K S B N])).mapO (viewD 99 (vselD ⟨[1, 2, 4, 8, 9, 10], [.fld 2 11, .of 4, .of 2, .of 8, .of 1, .fld 8 11]⟩ ⟨[], []⟩ ⟨[4, 8], [.of 4, .of 8, .fld 8 11]⟩)) =
    .node (decide ((i : Int) < (len : Int))) (.leaf ⟨.normal, [slI 4 c, .ptr 2 (.c 0), .ptr 1 (.c 0), .ptr 3 (.c 0), .int .i64 false (x : Int), .int .i64 false (i : Int)], [opsO len k s b n, zB, scB g (slO len), scB g (slA 5 M), intsO c f, outA M K S B N]⟩) (.leaf ⟨.exit 2, [.ptr 0 (.c 0), .ptr 1 (.c 0)], [zB, scB g (slA 2 M), outA M K S B N]⟩) := by kernel_rfl
theorem rg_c2_11 (g : SetD) (len : Nat) (k s : Nat → Int) (b : Nat → ByteArray) (n : Nat → Int) (x i : Nat) (c : Nat) (f : Nat → Int) (M : Nat) (K S : Nat → Int) (B : Nat → ByteArray) (N : Nat → Int) (j : Nat → Value) : (evalS E6 S6 1000 (preC 3 rgB1) (mkA 99 ([1, 2, 4, 8, 9, 10].zip [slI 4 c, .ptr 2 (.c 0), .ptr 1 (.c 0), .ptr 3 (.c 0), .int .i64 false (x : Int), .int .i64 false (i : Int)]) j) (mkH [opsO len k s b n, zB, scB g (slO len), scB g (slA 5 M), intsO c f, outA M K S B N])).mapO (viewD 99 (vselD ⟨[1, 2, 4, 8, 9, 10, 11, 12], [.fld 2 11, .of 4, .of 2, .of 8, .of 1, .fld 8 11, .of 11]⟩ ⟨[], []⟩ ⟨[1, 2, 4, 8, 9, 10], [.fld 2 11, .of 4, .of 2, .of 8, .of 1, .fld 8 11]⟩)) =
    .node (decide ((0 : Int) ≤ (i : Int)) && (i : Int).toNat.blt len) (.node (i.blt len) (.node ((c : Int) == 0) (.node ((M + 1).ble 70368744177664 && capRoom (M + 1) 40) (.node ((Nat.div 0 4 + M).ble M) (.leaf ⟨.exit 3, [slI 4 c, .ptr 2 (.c 0), .ptr 1 (.c 0), .ptr 3 (.c 0), .int .i64 false (x : Int), .int .i64 false (i : Int)], [opsO len k s b n, zB, scB g (slO len), scB g (slA 5 (M + 1)), intsO c f, apO M K S B N (opRow ⟨k i, s i, b i, n i⟩ false)]⟩) .fail) .fail) (.node ((b i).toList == noBytes.toList) (.node ((M + 1).ble 70368744177664 && capRoom (M + 1) 40) (.node ((Nat.div 0 4 + M).ble M) (.leaf ⟨.exit 3, [slI 4 c, .ptr 2 (.c 0), .ptr 1 (.c 0), .ptr 3 (.c 0), .int .i64 false (x : Int), .int .i64 false (i : Int)], [opsO len k s b n, zB, scB g (slO len), scB g (slA 5 (M + 1)), intsO c f, apO M K S B N (opRow ⟨k i, s i, b i, n i⟩ false)]⟩) .fail) .fail) (.leaf ⟨.normal, [slI 4 c, .ptr 2 (.c 0), .ptr 1 (.c 0), .ptr 3 (.c 0), .int .i64 false (x : Int), .int .i64 false (i : Int), .ptr 6 (.c 0), .str false (b i)], [opsO len k s b n, zB, scB g (slO len), scB g (slA 5 M), intsO c f, outA M K S B N, .cells (opRow ⟨k i, s i, b i, n i⟩ false) true]⟩))) .fail) .fail := by kernel_rfl
theorem rg_r13_11 (g : SetD) (len : Nat) (k s : Nat → Int) (b : Nat → ByteArray) (n : Nat → Int) (x i : Nat) (c : Nat) (f : Nat → Int) (M : Nat) (K S : Nat → Int) (B : Nat → ByteArray) (N : Nat → Int) (j : Nat → Value) : (evalS E6 S6 1000 (seqR (postC 1 rgB)) (mkA 99 ([1, 2, 4, 8, 9, 10].zip [slI 4 c, .ptr 2 (.c 0), .ptr 1 (.c 0), .ptr 3 (.c 0), .int .i64 false (x : Int), .int .i64 false (i : Int)]) j) (mkH [opsO len k s b n, zB, scB g (slO len), scB g (slA 5 M), intsO c f, outA M K S B N])).mapO (viewD 99 (vselD ⟨[1, 2, 4, 8, 9, 10], [.fld 2 11, .of 4, .of 2, .of 8, .of 1, .fld 8 11]⟩ ⟨[], []⟩ ⟨[], []⟩)) =
    .leaf ⟨.normal, [slI 4 c, .ptr 2 (.c 0), .ptr 1 (.c 0), .ptr 3 (.c 0), .int .i64 false (x : Int), .int .i64 false (IntKind.i64.wrap ((i : Int) + 1))], [opsO len k s b n, zB, scB g (slO len), scB g (slA 5 M), intsO c f, outA M K S B N]⟩ := by kernel_rfl
theorem rg_c3_11 (g : SetD) (len : Nat) (k s : Nat → Int) (b : Nat → ByteArray) (n : Nat → Int) (x i : Nat) (c : Nat) (f : Nat → Int) (M : Nat) (K S : Nat → Int) (B : Nat → ByteArray) (N : Nat → Int) (kk ss nn : Int) (bb t : ByteArray) (j : Nat → Value) : (evalS E6 S6 1000 rgB2 (mkA 99 ([1, 2, 4, 8, 9, 10, 11, 12].zip [slI 4 c, .ptr 2 (.c 0), .ptr 1 (.c 0), .ptr 3 (.c 0), .int .i64 false (x : Int), .int .i64 false (i : Int), .ptr 6 (.c 0), .str false t]) j) (mkH [opsO len k s b n, zB, scB g (slO len), scB g (slA 5 M), intsO c f, outA M K S B N, .cells [.int .i64 false kk, .int .i64 false ss, .str false bb, .int .i64 false nn] true])).mapO (viewD 99 (vselD ⟨[1, 2, 4, 8, 9, 10, 11, 12], [.fld 2 11, .of 4, .of 2, .of 8, .of 1, .fld 8 11, .of 11]⟩ ⟨[], []⟩ ⟨[1, 2, 4, 8, 9, 10], [.fld 2 11, .of 4, .of 2, .of 8, .of 1, .fld 8 11]⟩)) =
    .node (!(t.toList == noBytes.toList)) (.node (decide ((c : Int) = 0)) .fail (.node (decide ((0 : Int) ≤ (x : Int).tmod (c : Int)) && ((x : Int).tmod (c : Int)).toNat.blt c) (.node (((x : Int).tmod (c : Int)).toNat.blt c)
      (.node (decide ((0 : Int) ≤ rtN f x c t) && (rtN f x c t).toNat.ble t.size) (.node ((M + 1).ble 70368744177664 && capRoom (M + 1) 40) (.node ((Nat.div 0 4 + M).ble M) (.node (decide ((0 : Int) ≤ rtN f x c t) && (rtN f x c t).toNat.ble t.size) (.leaf ⟨.normal, [slI 4 c, .ptr 2 (.c 0), .ptr 1 (.c 0), .ptr 3 (.c 0), .int .i64 false (IntKind.i64.wrap ((x : Int) + 1)), .int .i64 false (i : Int), .ptr 6 (.c 0), .str false (t.extract (rtN f x c t).toNat t.size)], [opsO len k s b n, zB, scB g (slO len), scB g (slA 5 (M + 1)), intsO c f, apO M K S B N [.int .i64 false kk, .int .i64 false ss, .str false (t.extract 0 (rtN f x c t).toNat), .int .i64 true 0], .cells [.int .i64 false kk, .int .i64 false ss, .str false bb, .int .i64 false nn] true]⟩) .fail) .fail) .fail) .fail) .fail) .fail)) (.leaf ⟨.exit 4, [slI 4 c, .ptr 2 (.c 0), .ptr 1 (.c 0), .ptr 3 (.c 0), .int .i64 false (x : Int), .int .i64 false (i : Int)], [opsO len k s b n, zB, scB g (slO len), scB g (slA 5 M), intsO c f, outA M K S B N]⟩) := by kernel_rfl
theorem rg_fin1 (g : SetD) (M : Nat) (K S : Nat → Int) (B : Nat → ByteArray) (N : Nat → Int) (j : Nat → Value) : (evalS E6 S6 1000 (seqR (postC 5 rgC)) (mkA 99 ([4, 8].zip [.ptr 0 (.c 0), .ptr 1 (.c 0)]) j) (mkH [zB, scB g (slA 2 M), outA M K S B N])).mapO (viewD 99 (vselD ⟨[], []⟩ ⟨[5, 4], [.of 4, .fld 8 11]⟩ ⟨[], []⟩)) =
    .node (decide ((M : Int) > 400)) (.leaf ⟨.ret, [.int .i64 true 6, .ptr 0 (.c 0)], [zC, outA M K S B N]⟩) (.leaf ⟨.ret, [.int .i64 true 0, .ptr 0 (.c 0)], [scB g (slA 1 M), outA M K S B N]⟩) := by kernel_rfl
theorem rg_fin0 (g : SetD) (j : Nat → Value) : (evalS E6 S6 1000 (seqR (postC 5 rgC)) (mkA 99 ([4, 8].zip [.ptr 0 (.c 0), .ptr 1 (.c 0)]) j) (mkH [zB, scB g nilO])).mapO (viewD 99 (vselD ⟨[], []⟩ ⟨[5, 4], [.of 4]⟩ ⟨[], []⟩)) =
    .leaf ⟨.ret, [.int .i64 true 0, .ptr 0 (.c 0)], [scB g nilO]⟩ := by kernel_rfl
end Go.Ev
end
section
set_option maxRecDepth 100000
set_option linter.unusedVariables false
namespace Go.Ev
open Go.Proofs Go.RowKit
theorem cut_of2 {c : Nat} {f : Nat → Int} (hlow : lowQ 0 (intL c f) < 0) {x : Nat} {t : ByteArray} (hc : 0 < c) (ht : t.size ≠ 0) : ((x : Int).tmod (c : Int)).toNat = x % c ∧ 0 ≤ (x : Int).tmod (c : Int) ∧ x % c < c ∧ 0 ≤ rtN f x c t ∧ (rtN f x c t).toNat = cutN (intL c f) x t ∧ (rtN f x c t).toNat ≤ t.size := by
  have h1 : (x : Int).tmod (c : Int) = ((x % c : Nat) : Int) := by
    rw [Int.tmod_eq_emod_of_nonneg (by omega)]
    rfl
  have h2 : x % c < c := Nat.mod_lt _ hc
  have h3 : ctX f x c = f (x % c) := by unfold ctX; rw [h1, Int.toNat_natCast]
  have hm : f (x % c) ∈ intL c f := List.mem_map.2 ⟨x % c, List.mem_range.2 h2, rfl⟩
  have h4 := lowQ_neg _ 0 (Int.le_refl _) hlow _ hm
  have h5 : (intL c f).getD (x % (intL c f).length) 1 = f (x % c) := by
    rw [intL_length, List.getD_eq_getElem?_getD, List.getElem?_map, List.getElem?_range h2]
    rfl
  refine ⟨by rw [h1, Int.toNat_natCast], by omega, h2, ?_⟩
  unfold rtN cutN
  rw [h3, h5]
  by_cases h6 : f (x % c) < (t.size : Int)
  · simp only [h6, decide_true, cond_true]
    omega
  · simp only [h6, decide_false, cond_false, Int.toNat_natCast]
    omega
/-- Ends. -/
theorem rg_end0 {ρ0 : Emb} {w : World} (gs : SetD) (e : Int) (l : Bool) {r : SetD × List OpD × Int} (b1 : Act) (w1 : World) (st : StL ρ0 w 99 [(5, .int .i64 l e), (4, .ptr 0 (.c 0))] [scB gs nilO] b1 w1) (hr : r = (gs, [], e)) :
    Leaves E6.P rgF b1.tmps (FrEnd ρ0 w r) b1.defers .returning w1 := by
  subst hr
  refine StL.finish (vs := [scrS gs nilO, .int .i64 l e]) (fun j => by kernel_rfl) st fun ρ v' rv _ fr => ?_
  exact ⟨v', ρ, rfl, fr, .inl ⟨rfl, rv⟩⟩
theorem rg_end2 {ρ0 : Emb} {w : World} (gs : SetD) (e : Int) (l : Bool) (M : Nat) (K S : Nat → Int) (B : Nat → ByteArray) (N : Nat → Int) {r : SetD × List OpD × Int} (b1 : Act) (w1 : World) (st : StL ρ0 w 99 [(5, .int .i64 l e), (4, .ptr 0 (.c 0))] [scB gs nilO, outA M K S B N] b1 w1) (hr : r = (gs, [], e)) :
    Leaves E6.P rgF b1.tmps (FrEnd ρ0 w r) b1.defers .returning w1 := by
  subst hr
  refine StL.finish (vs := [scrS gs nilO, .int .i64 l e]) (fun j => by kernel_rfl) st fun ρ v' rv _ fr => ?_
  exact ⟨v', ρ, rfl, fr, .inl ⟨rfl, rv⟩⟩
theorem rg_end1 {ρ0 : Emb} {w : World} (gs : SetD) (e : Int) (l : Bool) (p : OpD) (L : List OpD) {r : SetD × List OpD × Int} (b1 : Act) (w1 : World) (st : StL ρ0 w 99 [(5, .int .i64 l e), (4, .ptr 0 (.c 0))] [scB gs (slA 1 (p :: L).length), outL (p :: L)] b1 w1) (hr : r = (gs, p :: L, e)) :
    Leaves E6.P rgF b1.tmps (FrEnd ρ0 w r) b1.defers .returning w1 := by
  subst hr
  refine StL.finish (vs := [scrS gs (slA 1 (p :: L).length), .int .i64 l e]) (fun j => by kernel_rfl) st fun ρ v' rv wr fr => ?_
  have hg : (mkH [scB gs (slA 1 (p :: L).length), outL (p :: L)]).den.get 1 = some (outL (p :: L)).den := by
    rw [SH.den_get, mkH_get (by simp [most])]
    rfl
  have hne : (outL (p :: L)).den ≠ .dead := by rw [outL_den]; exact fun h => by cases h
  rcases wr.at hg hne with ⟨g1, h1, h2⟩ | ⟨_, h2⟩
  · have h3 := h2
    rw [outL_den] at h3
    exact ⟨v', ρ, rfl, fr, .inr ⟨1, g1, h1, h3.1, by simp, h2, rv⟩⟩
  · rw [outL_den] at h2
    simp only [AObj.cells.injEq] at h2
    exact absurd h2.2 (by decide)
/-- The state of the rounds. -/
def rgSt0 (g : SetD) (len : Nat) (k s : Nat → Int) (b : Nat → ByteArray) (n : Nat → Int) (ρ0 : Emb) (w : World) (x i : Nat) (L : List OpD) (b1 : Act) (w1 : World) : Prop :=
  StL ρ0 w 99 ([1, 2, 4, 8, 9, 10].zip [nilO, .ptr 2 (.c 0), .ptr 1 (.c 0), .ptr 3 (.c 0), .int .i64 false (x : Int), .int .i64 false (i : Int)]) ([opsO len k s b n, zB, scB g (slO len), scB g (oS 4 L)] ++ oO L) b1 w1
theorem rg_snoc00 (g : SetD) (len : Nat) (k s : Nat → Int) (b : Nat → ByteArray) (n : Nat → Int) {ρ0 : Emb} {w : World} {x i : Nat} {p : OpD} {lb : Bool} {b1 : Act} {w1 : World}
    (st : StL ρ0 w 99 ([1, 2, 4, 8, 9, 10].zip [nilO, .ptr 2 (.c 0), .ptr 1 (.c 0), .ptr 3 (.c 0), .int .i64 false (x : Int), .int .i64 false (i : Int)]) [opsO len k s b n, zB, scB g (slO len), scB g (.sl 4 (.c 0) ⟨true, 1⟩ 4), .cells (opRow p lb) true] b1 w1) : rgSt0 g len k s b n ρ0 w x i ([] ++ [p]) b1 w1 := by
  refine st.conv rfl ?_
  show [_, _, _, _, (SObj.cells (opRow p lb) true).den] = _
  rw [cells_one p lb]
  rfl
theorem rg_snoc10 (g : SetD) (len : Nat) (k s : Nat → Int) (b : Nat → ByteArray) (n : Nat → Int) {ρ0 : Emb} {w : World} {x i : Nat} {p q : OpD} {L : List OpD} {lb : Bool} {b1 : Act} {w1 : World}
    (st : StL ρ0 w 99 ([1, 2, 4, 8, 9, 10].zip [nilO, .ptr 2 (.c 0), .ptr 1 (.c 0), .ptr 3 (.c 0), .int .i64 false (x : Int), .int .i64 false (i : Int)]) [opsO len k s b n, zB, scB g (slO len), scB g (slA 4 ((q :: L).length + 1)), apO (q :: L).length (fk (q :: L)) (fs (q :: L)) (fb (q :: L)) (fn (q :: L)) (opRow p lb)] b1 w1) : rgSt0 g len k s b n ρ0 w x i ((q :: L) ++ [p]) b1 w1 := by
  refine st.conv rfl ?_
  have h := cells_app (q :: L) p lb
  simp only [List.cons_append, oS, oO, List.map_cons, List.map_nil, List.cons_append, List.nil_append] at h ⊢
  rw [h]
  simp only [SObj.den, List.length_append, List.length_cons, List.length_nil]
theorem rg_loop0 (g : SetD) (len : Nat) (k s : Nat → Int) (b : Nat → ByteArray) (n : Nat → Int) {ρ0 : Emb} {w : World} (hlen : len ≤ 400) (hsum : sumN (opsL len k s b n) ≤ 1000000000)
    {Q : Exit → Act → World → Prop} (k2 : ∀ b1 w1, StL ρ0 w 99 ([4, 8].zip [.ptr 0 (.c 0), .ptr 1 (.c 0)]) ([zB, scB g (oS 2 (fragQ [] 0 (opsL len k s b n)))] ++ oO (fragQ [] 0 (opsL len k s b n))) b1 w1 → Q .normal b1 w1) (b1 : Act) (w1 : World) (st : rgSt0 g len k s b n ρ0 w 0 0 [] b1 w1) :
    Code.wp E6.P (seqR (seqL (postC 5 rgC))) Q b1 w1 := by
  refine wp_blockP (by kernel_rfl) ?_
  refine wp_loopP (by kernel_rfl) (fun M y w' => ∃ (i x : Nat) (L : List OpD), M = len - i ∧ i ≤ len ∧ x + sumN ((opsL len k s b n).drop i) ≤ 1000000000 ∧ L.length + (len - i) + sumN ((opsL len k s b n).drop i) ≤ 1000000400 ∧
    fragQ [] 0 (opsL len k s b n) = L ++ fragQ [] x ((opsL len k s b n).drop i) ∧ rgSt0 g len k s b n ρ0 w x i L y w') ?_ ⟨0, 0, [], rfl, Nat.zero_le _, by rw [List.drop_zero]; omega, by rw [List.drop_zero]; simp only [List.length_nil]; omega, by rw [List.drop_zero]; rfl, st⟩
  rintro _ b3 w3 ⟨i, x, L, rfl, hi, hx, hL, hacc, st⟩
  have fin : i = len → ∀ b4 w4, StL ρ0 w 99 ([4, 8].zip [.ptr 0 (.c 0), .ptr 1 (.c 0)]) ([zB, scB g (oS 2 L)] ++ oO L) b4 w4 → Q .normal b4 w4 := fun he b4 w4 st => by
    rw [he, List.drop_eq_nil_of_le (by rw [opsL_length]; exact Nat.le_refl _), fragQ, List.append_nil] at hacc
    exact k2 b4 w4 (by rw [hacc]; exact st)
  have next : ∀ (x' : Nat) (L' : List OpD) (b4 : Act) (w4 : World), i < len → x' + sumN ((opsL len k s b n).drop (i + 1)) ≤ 1000000000 → L'.length + (len - (i + 1)) + sumN ((opsL len k s b n).drop (i + 1)) ≤ 1000000400 →
      L' ++ fragQ [] x' ((opsL len k s b n).drop (i + 1)) = L ++ fragQ [] x ((opsL len k s b n).drop i) → rgSt0 g len k s b n ρ0 w x' i L' b4 w4 →
      Code.wp E6.P (seqR (postC 1 rgB)) (Exit.then (fun b' w' => ∃ M, M < len - i ∧ ∃ (i x : Nat) (L : List OpD), M = len - i ∧ i ≤ len ∧ x + sumN ((opsL len k s b n).drop i) ≤ 1000000000 ∧ L.length + (len - i) + sumN ((opsL len k s b n).drop i) ≤ 1000000400 ∧
        fragQ [] 0 (opsL len k s b n) = L ++ fragQ [] x ((opsL len k s b n).drop i) ∧ rgSt0 g len k s b n ρ0 w x i L b' w') (Exit.inBlock (blockId (seqR (seqL (postC 5 rgC)))) Q)) b4 w4 := by
    intro x' L' b4 w4 hlt h1 h2 h3 st
    have hw : IntKind.i64.wrap ((i : Int) + 1) = ((i + 1 : Nat) : Int) := wrap_succ hlt (by omega)
    cases L' with
    | nil =>
      refine StL.pieceD sound6 thom6 1000 (by decide) (by kernel_rfl) (rg_r13_00 g len k s b n x' i) st ?_
      refine Holds.leaf ⟨rfl, fun b5 w5 st => ⟨len - (i + 1), by omega, i + 1, x', [], rfl, hlt, h1, h2, by rw [hacc, ← h3], ?_⟩⟩
      rw [hw] at st
      exact st
    | cons q L' =>
      refine StL.pieceD sound6 thom6 1000 (by decide) (by kernel_rfl) (rg_r13_01 g len k s b n x' i (q :: L').length (fk (q :: L')) (fs (q :: L')) (fb (q :: L')) (fn (q :: L'))) st ?_
      refine Holds.leaf ⟨rfl, fun b5 w5 st => ⟨len - (i + 1), by omega, i + 1, x', q :: L', rfl, hlt, h1, h2, by rw [hacc, ← h3], ?_⟩⟩
      rw [hw] at st
      exact st
  have plain : ∀ (b4 : Act) (w4 : World) (hlt : i < len), True → rgSt0 g len k s b n ρ0 w x i (L ++ [⟨k i, s i, b i, n i⟩]) b4 w4 →
      Code.wp E6.P (seqR (postC 1 rgB)) (Exit.then (fun b' w' => ∃ M, M < len - i ∧ ∃ (i x : Nat) (L : List OpD), M = len - i ∧ i ≤ len ∧ x + sumN ((opsL len k s b n).drop i) ≤ 1000000000 ∧ L.length + (len - i) + sumN ((opsL len k s b n).drop i) ≤ 1000000400 ∧
        fragQ [] 0 (opsL len k s b n) = L ++ fragQ [] x ((opsL len k s b n).drop i) ∧ rgSt0 g len k s b n ρ0 w x i L b' w') (Exit.inBlock (blockId (seqR (seqL (postC 5 rgC)))) Q)) b4 w4 := by
    intro b4 w4 hlt hor st
    rw [opsL_drop hlt, sumN] at hx hL
    simp only at hx hL
    refine next x _ b4 w4 hlt (by omega) (by simp only [List.length_append, List.length_cons, List.length_nil]; omega) ?_ st
    rw [opsL_drop hlt, fragQ, if_pos (.inl rfl), List.append_assoc]
    rfl
  cases L with
  | nil =>
    refine StL.preD sound6 thom6 1000 0 (by decide) (by kernel_rfl) (by kernel_rfl) (rg_c1_00 g len k s b n x i) st ?_
    refine Holds.node (fun h2 => ?_) fun h2 => ?_
    · have hlt : i < len := by simpa using h2
      have hblt : i.blt len = true := blt_true hlt
      refine .leaf ⟨rfl, fun b4 w4 st => ?_⟩
      show Code.wp E6.P (postC 1 rgB) _ b4 w4
      refine wp_seqP (by kernel_rfl) ?_
      refine wp_blockP (by kernel_rfl) ?_
      refine StL.preD sound6 thom6 1000 2 (by decide) (by kernel_rfl) (by kernel_rfl) (rg_c2_00 g len k s b n x i) st ?_
      refine Holds.yesB (by simp [hblt]) (Holds.yesB hblt ?_)
      exact .leaf ⟨rfl, fun b5 w5 st => plain b5 w5 hlt trivial (rg_snoc00 g len k s b n st)⟩
    · have hge : i = len := by simp at h2; omega
      exact .leaf ⟨rfl, fun b4 w4 st => fin hge b4 w4 st⟩
  | cons q L =>
    refine StL.preD sound6 thom6 1000 0 (by decide) (by kernel_rfl) (by kernel_rfl) (rg_c1_01 g len k s b n x i (q :: L).length (fk (q :: L)) (fs (q :: L)) (fb (q :: L)) (fn (q :: L))) st ?_
    refine Holds.node (fun h2 => ?_) fun h2 => ?_
    · have hlt : i < len := by simpa using h2
      have hblt : i.blt len = true := blt_true hlt
      refine .leaf ⟨rfl, fun b4 w4 st => ?_⟩
      show Code.wp E6.P (postC 1 rgB) _ b4 w4
      refine wp_seqP (by kernel_rfl) ?_
      refine wp_blockP (by kernel_rfl) ?_
      refine StL.preD sound6 thom6 1000 2 (by decide) (by kernel_rfl) (by kernel_rfl) (rg_c2_01 g len k s b n x i (q :: L).length (fk (q :: L)) (fs (q :: L)) (fb (q :: L)) (fn (q :: L))) st ?_
      refine Holds.yesB (by simp [hblt]) (Holds.yesB hblt ?_)
      refine Holds.yesB (capO (by simp only [List.length_cons] at hL ⊢; omega)) (Holds.yesB (bleQ _) ?_)
      exact .leaf ⟨rfl, fun b5 w5 st => plain b5 w5 hlt trivial (rg_snoc10 g len k s b n st)⟩
    · have hge : i = len := by simp at h2; omega
      exact .leaf ⟨rfl, fun b4 w4 st => fin hge b4 w4 st⟩
/-- The state of the rounds. -/
def rgSt1 (g : SetD) (len : Nat) (k s : Nat → Int) (b : Nat → ByteArray) (n : Nat → Int) (c : Nat) (f : Nat → Int) (ρ0 : Emb) (w : World) (x i : Nat) (L : List OpD) (b1 : Act) (w1 : World) : Prop :=
  StL ρ0 w 99 ([1, 2, 4, 8, 9, 10].zip [slI 4 c, .ptr 2 (.c 0), .ptr 1 (.c 0), .ptr 3 (.c 0), .int .i64 false (x : Int), .int .i64 false (i : Int)]) ([opsO len k s b n, zB, scB g (slO len), scB g (oS 5 L), intsO c f] ++ oO L) b1 w1
theorem rg_snoc01 (g : SetD) (len : Nat) (k s : Nat → Int) (b : Nat → ByteArray) (n : Nat → Int) (c : Nat) (f : Nat → Int) {ρ0 : Emb} {w : World} {x i : Nat} {p : OpD} {lb : Bool} {b1 : Act} {w1 : World}
    (st : StL ρ0 w 99 ([1, 2, 4, 8, 9, 10].zip [slI 4 c, .ptr 2 (.c 0), .ptr 1 (.c 0), .ptr 3 (.c 0), .int .i64 false (x : Int), .int .i64 false (i : Int)]) [opsO len k s b n, zB, scB g (slO len), scB g (.sl 5 (.c 0) ⟨true, 1⟩ 4), intsO c f, .cells (opRow p lb) true] b1 w1) : rgSt1 g len k s b n c f ρ0 w x i ([] ++ [p]) b1 w1 := by
  refine st.conv rfl ?_
  show [_, _, _, _, _, (SObj.cells (opRow p lb) true).den] = _
  rw [cells_one p lb]
  rfl
theorem rg_snoc11 (g : SetD) (len : Nat) (k s : Nat → Int) (b : Nat → ByteArray) (n : Nat → Int) (c : Nat) (f : Nat → Int) {ρ0 : Emb} {w : World} {x i : Nat} {p q : OpD} {L : List OpD} {lb : Bool} {b1 : Act} {w1 : World}
    (st : StL ρ0 w 99 ([1, 2, 4, 8, 9, 10].zip [slI 4 c, .ptr 2 (.c 0), .ptr 1 (.c 0), .ptr 3 (.c 0), .int .i64 false (x : Int), .int .i64 false (i : Int)]) [opsO len k s b n, zB, scB g (slO len), scB g (slA 5 ((q :: L).length + 1)), intsO c f, apO (q :: L).length (fk (q :: L)) (fs (q :: L)) (fb (q :: L)) (fn (q :: L)) (opRow p lb)] b1 w1) : rgSt1 g len k s b n c f ρ0 w x i ((q :: L) ++ [p]) b1 w1 := by
  refine st.conv rfl ?_
  have h := cells_app (q :: L) p lb
  simp only [List.cons_append, oS, oO, List.map_cons, List.map_nil, List.cons_append, List.nil_append] at h ⊢
  rw [h]
  simp only [SObj.den, List.length_append, List.length_cons, List.length_nil]
def qO (L : List OpD) : Nat := match L with
  | [] => 5
  | _ :: _ => 6
/-- The state of the rounds within a text. -/
def rgIn (g : SetD) (len : Nat) (k s : Nat → Int) (b : Nat → ByteArray) (n : Nat → Int) (c : Nat) (f : Nat → Int) (ρ0 : Emb) (w : World) (i : Nat) (x : Nat) (t : ByteArray) (L : List OpD) (b1 : Act) (w1 : World) : Prop :=
  StL ρ0 w 99 ([1, 2, 4, 8, 9, 10, 11, 12].zip [slI 4 c, .ptr 2 (.c 0), .ptr 1 (.c 0), .ptr 3 (.c 0), .int .i64 false (x : Int), .int .i64 false (i : Int), .ptr (qO L) (.c 0), .str false t]) ([opsO len k s b n, zB, scB g (slO len), scB g (oS 5 L), intsO c f] ++ (oO L ++ [.cells (opRow ⟨k i, s i, b i, n i⟩ false) true])) b1 w1
theorem rg_in0 (g : SetD) (len : Nat) (k s : Nat → Int) (b : Nat → ByteArray) (n : Nat → Int) (c : Nat) (f : Nat → Int) {ρ0 : Emb} {w : World} {x i : Nat} {y : Int} {t : ByteArray} {p : OpD} {lb : Bool} {b1 : Act} {w1 : World} (hy : y = (x : Int))
    (st : StL ρ0 w 99 ([1, 2, 4, 8, 9, 10, 11, 12].zip [slI 4 c, .ptr 2 (.c 0), .ptr 1 (.c 0), .ptr 3 (.c 0), .int .i64 false y, .int .i64 false (i : Int), .ptr 6 (.c 0), .str false t]) [opsO len k s b n, zB, scB g (slO len), scB g (.sl 5 (.c 0) ⟨true, 1⟩ 4), intsO c f, .cells (opRow p lb) true, .cells (opRow ⟨k i, s i, b i, n i⟩ false) true] b1 w1) : rgIn g len k s b n c f ρ0 w i x t ([] ++ [p]) b1 w1 := by
  subst hy
  refine st.conv rfl ?_
  show [_, _, _, _, _, (SObj.cells (opRow p lb) true).den, _] = _
  rw [cells_one p lb]
  rfl
theorem rg_in1 (g : SetD) (len : Nat) (k s : Nat → Int) (b : Nat → ByteArray) (n : Nat → Int) (c : Nat) (f : Nat → Int) {ρ0 : Emb} {w : World} {x i : Nat} {y : Int} {t : ByteArray} {p q : OpD} {L : List OpD} {lb : Bool} {b1 : Act} {w1 : World} (hy : y = (x : Int))
    (st : StL ρ0 w 99 ([1, 2, 4, 8, 9, 10, 11, 12].zip [slI 4 c, .ptr 2 (.c 0), .ptr 1 (.c 0), .ptr 3 (.c 0), .int .i64 false y, .int .i64 false (i : Int), .ptr 6 (.c 0), .str false t]) [opsO len k s b n, zB, scB g (slO len), scB g (slA 5 ((q :: L).length + 1)), intsO c f, apO (q :: L).length (fk (q :: L)) (fs (q :: L)) (fb (q :: L)) (fn (q :: L)) (opRow p lb), .cells (opRow ⟨k i, s i, b i, n i⟩ false) true] b1 w1) : rgIn g len k s b n c f ρ0 w i x t ((q :: L) ++ [p]) b1 w1 := by
  subst hy
  refine st.conv rfl ?_
  have h := cells_app (q :: L) p lb
  simp only [List.cons_append, oS, oO, List.map_cons, List.map_nil, List.cons_append, List.nil_append] at h ⊢
  rw [h]
  simp only [SObj.den, List.length_append, List.length_cons, List.length_nil]
/-- The rounds within a text. -/
theorem rg_inner (g : SetD) (len : Nat) (k s : Nat → Int) (b : Nat → ByteArray) (n : Nat → Int) (c : Nat) (f : Nat → Int) {ρ0 : Emb} {w : World} (hlow : lowQ 0 (intL c f) < 0) (hc : 0 < c) (i : Nat) (x0 : Nat) (t0 : ByteArray) (L0 : List OpD) (hx : x0 + t0.size ≤ 1000000000) (hL : L0.length + t0.size ≤ 1000001000)
    {Q : Exit → Act → World → Prop} (k2 : ∀ x L b1 w1, L = L0 ++ (frag1 (intL c f) (k i) (s i) x0 t0).1 → x = (frag1 (intL c f) (k i) (s i) x0 t0).2 → rgSt1 g len k s b n c f ρ0 w x i L b1 w1 → Q .normal b1 w1) (b1 : Act) (w1 : World) (st : rgIn g len k s b n c f ρ0 w i x0 t0 L0 b1 w1) :
    Code.wp E6.P (postC 3 rgB1) Q b1 w1 := by
  refine wp_blockP (by kernel_rfl) ?_
  refine wp_loopP (by kernel_rfl) (fun M y w' => ∃ (x : Nat) (t : ByteArray) (L : List OpD), M = t.size ∧ x + t.size ≤ 1000000000 ∧ L.length + t.size ≤ 1000001000 ∧
    L0 ++ (frag1 (intL c f) (k i) (s i) x0 t0).1 = L ++ (frag1 (intL c f) (k i) (s i) x t).1 ∧ (frag1 (intL c f) (k i) (s i) x0 t0).2 = (frag1 (intL c f) (k i) (s i) x t).2 ∧ rgIn g len k s b n c f ρ0 w i x t L y w') ?_ ⟨x0, t0, L0, rfl, hx, hL, rfl, rfl, st⟩
  rintro _ b3 w3 ⟨x, t, L, rfl, hx, hL, hacc, hac2, st⟩
  have fin : t.size = 0 → ∀ b4 w4, rgSt1 g len k s b n c f ρ0 w x i L b4 w4 → Q .normal b4 w4 := fun h0 b4 w4 st => by
    rw [frag1_nil _ _ _ _ _ h0] at hacc hac2
    exact k2 x L b4 w4 (by rw [hacc, List.append_nil]) hac2.symm st
  have next : t.size ≠ 0 → ∀ b4 w4, (∀ y, y = ((x + 1 : Nat) : Int) → True) → rgIn g len k s b n c f ρ0 w i (x + 1) (t.extract (cutN (intL c f) x t) t.size) (L ++ [⟨k i, s i, t.extract 0 (cutN (intL c f) x t), 0⟩]) b4 w4 →
      ∃ M, M < t.size ∧ ∃ (x : Nat) (t : ByteArray) (L : List OpD), M = t.size ∧ x + t.size ≤ 1000000000 ∧ L.length + t.size ≤ 1000001000 ∧
        L0 ++ (frag1 (intL c f) (k i) (s i) x0 t0).1 = L ++ (frag1 (intL c f) (k i) (s i) x t).1 ∧ (frag1 (intL c f) (k i) (s i) x0 t0).2 = (frag1 (intL c f) (k i) (s i) x t).2 ∧ rgIn g len k s b n c f ρ0 w i x t L b4 w4 := fun h0 b4 w4 _ st => by
    have h1 : 1 ≤ cutN (intL c f) x t := Nat.le_max_left _ _
    have hs : (t.extract (cutN (intL c f) x t) t.size).size = t.size - cutN (intL c f) x t := by rw [ByteArray.size_extract]; omega
    rw [frag1_cons _ _ _ _ _ h0] at hacc hac2
    refine ⟨t.size - cutN (intL c f) x t, by omega, x + 1, _, _, hs.symm, by omega, by simp only [List.length_append, List.length_cons, List.length_nil]; omega, ?_, hac2, st⟩
    rw [hacc, List.append_assoc]
    rfl
  have hsx : IntKind.i64.wrap ((x : Int) + 1) = ((x + 1 : Nat) : Int) := wrap_succ (len := x + 1) (by omega) (by omega)
  have hcz : decide ((c : Int) = 0) = false := by simp; omega
  cases L with
  | nil =>
    refine StL.pieceD sound6 thom6 1000 (by decide) (by kernel_rfl) (rg_c3_10 g len k s b n x i c f (k i) (s i) (n i) (b i) t) st ?_
    rw [noB]
    refine Holds.node (fun h0 => ?_) fun h0 => ?_
    · have h0 : t.size ≠ 0 := by simpa using h0
      obtain ⟨e1, e2, e3, e4, e5, e6⟩ := cut_of2 hlow (x := x) hc h0
      rw [e1, hcz, e5]
      refine Holds.no rfl (Holds.yesB (by simp [e2, blt_true e3]) (Holds.yesB (blt_true e3) ?_))
      have hsl : (decide ((0 : Int) ≤ rtN f x c t) && (cutN (intL c f) x t).ble t.size) = true := by
        rw [e5] at e6
        simp only [e4, decide_true, Bool.true_and]
        exact Nat.ble_eq_true_of_le e6
      refine Holds.yesB hsl (Holds.yesB hsl ?_)
      exact .leaf ⟨rfl, fun b4 w4 st => next h0 b4 w4 (fun _ _ => trivial) (rg_in0 g len k s b n c f (p := ⟨k i, s i, t.extract 0 (cutN (intL c f) x t), 0⟩) (lb := true) hsx st)⟩
    · have h0 : t.size = 0 := by simpa using h0
      exact .leaf ⟨rfl, fun b4 w4 st => fin h0 b4 w4 st⟩
  | cons q L =>
    refine StL.pieceD sound6 thom6 1000 (by decide) (by kernel_rfl) (rg_c3_11 g len k s b n x i c f (q :: L).length (fk (q :: L)) (fs (q :: L)) (fb (q :: L)) (fn (q :: L)) (k i) (s i) (n i) (b i) t) st ?_
    rw [noB]
    refine Holds.node (fun h0 => ?_) fun h0 => ?_
    · have h0 : t.size ≠ 0 := by simpa using h0
      obtain ⟨e1, e2, e3, e4, e5, e6⟩ := cut_of2 hlow (x := x) hc h0
      rw [e1, hcz, e5]
      refine Holds.no rfl (Holds.yesB (by simp [e2, blt_true e3]) (Holds.yesB (blt_true e3) ?_))
      have hsl : (decide ((0 : Int) ≤ rtN f x c t) && (cutN (intL c f) x t).ble t.size) = true := by
        rw [e5] at e6
        simp only [e4, decide_true, Bool.true_and]
        exact Nat.ble_eq_true_of_le e6
      refine Holds.yesB hsl (Holds.yesB (capO (by simp only [List.length_cons] at hL ⊢; omega)) (Holds.yesB (bleQ _) (Holds.yesB hsl ?_)))
      exact .leaf ⟨rfl, fun b4 w4 st => next h0 b4 w4 (fun _ _ => trivial) (rg_in1 g len k s b n c f (p := ⟨k i, s i, t.extract 0 (cutN (intL c f) x t), 0⟩) (lb := true) hsx st)⟩
    · have h0 : t.size = 0 := by simpa using h0
      exact .leaf ⟨rfl, fun b4 w4 st => fin h0 b4 w4 st⟩
theorem rg_loop1 (g : SetD) (len : Nat) (k s : Nat → Int) (b : Nat → ByteArray) (n : Nat → Int) (c : Nat) (f : Nat → Int) {ρ0 : Emb} {w : World} (hlow : lowQ 0 (intL c f) < 0) (hlen : len ≤ 400) (hsum : sumN (opsL len k s b n) ≤ 1000000000)
    {Q : Exit → Act → World → Prop} (k2 : ∀ b1 w1, StL ρ0 w 99 ([4, 8].zip [.ptr 0 (.c 0), .ptr 1 (.c 0)]) ([zB, scB g (oS 2 (fragQ (intL c f) 0 (opsL len k s b n)))] ++ oO (fragQ (intL c f) 0 (opsL len k s b n))) b1 w1 → Q .normal b1 w1) (b1 : Act) (w1 : World) (st : rgSt1 g len k s b n c f ρ0 w 0 0 [] b1 w1) :
    Code.wp E6.P (seqR (seqL (postC 5 rgC))) Q b1 w1 := by
  refine wp_blockP (by kernel_rfl) ?_
  refine wp_loopP (by kernel_rfl) (fun M y w' => ∃ (i x : Nat) (L : List OpD), M = len - i ∧ i ≤ len ∧ x + sumN ((opsL len k s b n).drop i) ≤ 1000000000 ∧ L.length + (len - i) + sumN ((opsL len k s b n).drop i) ≤ 1000000400 ∧
    fragQ (intL c f) 0 (opsL len k s b n) = L ++ fragQ (intL c f) x ((opsL len k s b n).drop i) ∧ rgSt1 g len k s b n c f ρ0 w x i L y w') ?_ ⟨0, 0, [], rfl, Nat.zero_le _, by rw [List.drop_zero]; omega, by rw [List.drop_zero]; simp only [List.length_nil]; omega, by rw [List.drop_zero]; rfl, st⟩
  rintro _ b3 w3 ⟨i, x, L, rfl, hi, hx, hL, hacc, st⟩
  have fin : i = len → ∀ b4 w4, StL ρ0 w 99 ([4, 8].zip [.ptr 0 (.c 0), .ptr 1 (.c 0)]) ([zB, scB g (oS 2 L)] ++ oO L) b4 w4 → Q .normal b4 w4 := fun he b4 w4 st => by
    rw [he, List.drop_eq_nil_of_le (by rw [opsL_length]; exact Nat.le_refl _), fragQ, List.append_nil] at hacc
    exact k2 b4 w4 (by rw [hacc]; exact st)
  have next : ∀ (x' : Nat) (L' : List OpD) (b4 : Act) (w4 : World), i < len → x' + sumN ((opsL len k s b n).drop (i + 1)) ≤ 1000000000 → L'.length + (len - (i + 1)) + sumN ((opsL len k s b n).drop (i + 1)) ≤ 1000000400 →
      L' ++ fragQ (intL c f) x' ((opsL len k s b n).drop (i + 1)) = L ++ fragQ (intL c f) x ((opsL len k s b n).drop i) → rgSt1 g len k s b n c f ρ0 w x' i L' b4 w4 →
      Code.wp E6.P (seqR (postC 1 rgB)) (Exit.then (fun b' w' => ∃ M, M < len - i ∧ ∃ (i x : Nat) (L : List OpD), M = len - i ∧ i ≤ len ∧ x + sumN ((opsL len k s b n).drop i) ≤ 1000000000 ∧ L.length + (len - i) + sumN ((opsL len k s b n).drop i) ≤ 1000000400 ∧
        fragQ (intL c f) 0 (opsL len k s b n) = L ++ fragQ (intL c f) x ((opsL len k s b n).drop i) ∧ rgSt1 g len k s b n c f ρ0 w x i L b' w') (Exit.inBlock (blockId (seqR (seqL (postC 5 rgC)))) Q)) b4 w4 := by
    intro x' L' b4 w4 hlt h1 h2 h3 st
    have hw : IntKind.i64.wrap ((i : Int) + 1) = ((i + 1 : Nat) : Int) := wrap_succ hlt (by omega)
    cases L' with
    | nil =>
      refine StL.pieceD sound6 thom6 1000 (by decide) (by kernel_rfl) (rg_r13_10 g len k s b n x' i c f) st ?_
      refine Holds.leaf ⟨rfl, fun b5 w5 st => ⟨len - (i + 1), by omega, i + 1, x', [], rfl, hlt, h1, h2, by rw [hacc, ← h3], ?_⟩⟩
      rw [hw] at st
      exact st
    | cons q L' =>
      refine StL.pieceD sound6 thom6 1000 (by decide) (by kernel_rfl) (rg_r13_11 g len k s b n x' i c f (q :: L').length (fk (q :: L')) (fs (q :: L')) (fb (q :: L')) (fn (q :: L'))) st ?_
      refine Holds.leaf ⟨rfl, fun b5 w5 st => ⟨len - (i + 1), by omega, i + 1, x', q :: L', rfl, hlt, h1, h2, by rw [hacc, ← h3], ?_⟩⟩
      rw [hw] at st
      exact st
  have plain : ∀ (b4 : Act) (w4 : World) (hlt : i < len), c = 0 ∨ (b i).size = 0 → rgSt1 g len k s b n c f ρ0 w x i (L ++ [⟨k i, s i, b i, n i⟩]) b4 w4 →
      Code.wp E6.P (seqR (postC 1 rgB)) (Exit.then (fun b' w' => ∃ M, M < len - i ∧ ∃ (i x : Nat) (L : List OpD), M = len - i ∧ i ≤ len ∧ x + sumN ((opsL len k s b n).drop i) ≤ 1000000000 ∧ L.length + (len - i) + sumN ((opsL len k s b n).drop i) ≤ 1000000400 ∧
        fragQ (intL c f) 0 (opsL len k s b n) = L ++ fragQ (intL c f) x ((opsL len k s b n).drop i) ∧ rgSt1 g len k s b n c f ρ0 w x i L b' w') (Exit.inBlock (blockId (seqR (seqL (postC 5 rgC)))) Q)) b4 w4 := by
    intro b4 w4 hlt hor st
    rw [opsL_drop hlt, sumN] at hx hL
    simp only at hx hL
    refine next x _ b4 w4 hlt (by omega) (by simp only [List.length_append, List.length_cons, List.length_nil]; omega) ?_ st
    rw [opsL_drop hlt, fragQ, if_pos (hor.imp (fun h => by subst h; rfl) id), List.append_assoc]
    rfl
  have cut : ∀ (b4 : Act) (w4 : World) (hlt : i < len), 0 < c → (b i).size ≠ 0 → rgIn g len k s b n c f ρ0 w i x (b i) L b4 w4 →
      Code.wp E6.P (postC 3 rgB1) (Exit.inBlock (blockId (seqL (postC 1 rgB))) (Exit.then ((seqR (postC 1 rgB)).wp E6.P (Exit.then (fun b' w' => ∃ M, M < len - i ∧ ∃ (i x : Nat) (L : List OpD), M = len - i ∧ i ≤ len ∧ x + sumN ((opsL len k s b n).drop i) ≤ 1000000000 ∧ L.length + (len - i) + sumN ((opsL len k s b n).drop i) ≤ 1000000400 ∧
        fragQ (intL c f) 0 (opsL len k s b n) = L ++ fragQ (intL c f) x ((opsL len k s b n).drop i) ∧ rgSt1 g len k s b n c f ρ0 w x i L b' w') (Exit.inBlock (blockId (seqR (seqL (postC 5 rgC)))) Q))) (Exit.then (fun b' w' => ∃ M, M < len - i ∧ ∃ (i x : Nat) (L : List OpD), M = len - i ∧ i ≤ len ∧ x + sumN ((opsL len k s b n).drop i) ≤ 1000000000 ∧ L.length + (len - i) + sumN ((opsL len k s b n).drop i) ≤ 1000000400 ∧
        fragQ (intL c f) 0 (opsL len k s b n) = L ++ fragQ (intL c f) x ((opsL len k s b n).drop i) ∧ rgSt1 g len k s b n c f ρ0 w x i L b' w') (Exit.inBlock (blockId (seqR (seqL (postC 5 rgC)))) Q)))) b4 w4 := by
    intro b4 w4 hlt hc hb st
    rw [opsL_drop hlt, sumN] at hx hL
    simp only at hx hL
    have hfl := frag_len (b i).size (intL c f) (k i) (s i) x (b i) (Nat.le_refl _)
    refine rg_inner g len k s b n c f hlow hc i x (b i) L (by omega) (by omega) (fun x2 L2 b5 w5 e1 e2 st => ?_) b4 w4 st
    show Code.wp E6.P (seqR (postC 1 rgB)) _ b5 w5
    refine next x2 L2 b5 w5 hlt (by omega) (by rw [e1, List.length_append]; omega) ?_ st
    have hnot : ¬ ((intL c f) = [] ∨ (b i).size = 0) := by
      rintro (h | h)
      · have := congrArg List.length h
        rw [intL_length] at this
        simp only [List.length_nil] at this
        omega
      · exact hb h
    rw [opsL_drop hlt, fragQ, if_neg hnot, e1, e2, List.append_assoc]
  cases L with
  | nil =>
    refine StL.preD sound6 thom6 1000 0 (by decide) (by kernel_rfl) (by kernel_rfl) (rg_c1_10 g len k s b n x i c f) st ?_
    refine Holds.node (fun h2 => ?_) fun h2 => ?_
    · have hlt : i < len := by simpa using h2
      have hblt : i.blt len = true := blt_true hlt
      refine .leaf ⟨rfl, fun b4 w4 st => ?_⟩
      show Code.wp E6.P (postC 1 rgB) _ b4 w4
      refine wp_seqP (by kernel_rfl) ?_
      refine wp_blockP (by kernel_rfl) ?_
      refine StL.preD sound6 thom6 1000 2 (by decide) (by kernel_rfl) (by kernel_rfl) (rg_c2_10 g len k s b n x i c f) st ?_
      refine Holds.yesB (by simp [hblt]) (Holds.yesB hblt ?_)
      refine Holds.node (fun h3 => ?_) fun h3 => ?_
      · have h3 : c = 0 := by simp at h3; omega
        exact .leaf ⟨rfl, fun b5 w5 st => plain b5 w5 hlt (.inl h3) (rg_snoc01 g len k s b n c f st)⟩
      · have h3 : 0 < c := by simp at h3; omega
        rw [noB]
        refine Holds.node (fun h4 => ?_) fun h4 => ?_
        · have h4 : (b i).size = 0 := by simpa using h4
          exact .leaf ⟨rfl, fun b5 w5 st => plain b5 w5 hlt (.inr h4) (rg_snoc01 g len k s b n c f st)⟩
        · have h4 : (b i).size ≠ 0 := by simpa using h4
          exact .leaf ⟨rfl, fun b5 w5 st => cut b5 w5 hlt h3 h4 st⟩
    · have hge : i = len := by simp at h2; omega
      exact .leaf ⟨rfl, fun b4 w4 st => fin hge b4 w4 st⟩
  | cons q L =>
    refine StL.preD sound6 thom6 1000 0 (by decide) (by kernel_rfl) (by kernel_rfl) (rg_c1_11 g len k s b n x i c f (q :: L).length (fk (q :: L)) (fs (q :: L)) (fb (q :: L)) (fn (q :: L))) st ?_
    refine Holds.node (fun h2 => ?_) fun h2 => ?_
    · have hlt : i < len := by simpa using h2
      have hblt : i.blt len = true := blt_true hlt
      refine .leaf ⟨rfl, fun b4 w4 st => ?_⟩
      show Code.wp E6.P (postC 1 rgB) _ b4 w4
      refine wp_seqP (by kernel_rfl) ?_
      refine wp_blockP (by kernel_rfl) ?_
      refine StL.preD sound6 thom6 1000 2 (by decide) (by kernel_rfl) (by kernel_rfl) (rg_c2_11 g len k s b n x i c f (q :: L).length (fk (q :: L)) (fs (q :: L)) (fb (q :: L)) (fn (q :: L))) st ?_
      refine Holds.yesB (by simp [hblt]) (Holds.yesB hblt ?_)
      refine Holds.node (fun h3 => ?_) fun h3 => ?_
      · have h3 : c = 0 := by simp at h3; omega
        refine Holds.yesB (capO (by simp only [List.length_cons] at hL ⊢; omega)) (Holds.yesB (bleQ _) ?_)
        exact .leaf ⟨rfl, fun b5 w5 st => plain b5 w5 hlt (.inl h3) (rg_snoc11 g len k s b n c f st)⟩
      · have h3 : 0 < c := by simp at h3; omega
        rw [noB]
        refine Holds.node (fun h4 => ?_) fun h4 => ?_
        · have h4 : (b i).size = 0 := by simpa using h4
          refine Holds.yesB (capO (by simp only [List.length_cons] at hL ⊢; omega)) (Holds.yesB (bleQ _) ?_)
          exact .leaf ⟨rfl, fun b5 w5 st => plain b5 w5 hlt (.inr h4) (rg_snoc11 g len k s b n c f st)⟩
        · have h4 : (b i).size ≠ 0 := by simpa using h4
          exact .leaf ⟨rfl, fun b5 w5 st => cut b5 w5 hlt h3 h4 st⟩
    · have hge : i = len := by simp at h2; omega
      exact .leaf ⟨rfl, fun b4 w4 st => fin hge b4 w4 st⟩
theorem rg_low (g : SetD) (len : Nat) (k s : Nat → Int) (b : Nat → ByteArray) (n : Nat → Int) (c : Nat) (f : Nat → Int) {ρ0 : Emb} {w : World} (hc : c ≤ 70368744177664) {Q : Exit → Act → World → Prop} (k1 : 0 ≤ lowQ 0 (intL c f) → ∀ b1 w1, StL ρ0 w 99 ([5, 4].zip [.int .i64 true 3, .ptr 0 (.c 0)]) [zC] b1 w1 → Q .ret b1 w1)
    (k2 : lowQ 0 (intL c f) < 0 → ∀ b1 w1, StL ρ0 w 99 ([1, 2, 4].zip [slI 3 c, .ptr 2 (.c 0), .ptr 1 (.c 0)]) [opsO len k s b n, zC, scB g (slO len), intsO c f] b1 w1 → Q .normal b1 w1) (b1 : Act) (w1 : World) (st : StL ρ0 w 99 ([1, 2, 4].zip [slI 3 c, .ptr 2 (.c 0), .ptr 1 (.c 0)]) [opsO len k s b n, zC, scB g (slO len), intsO c f] b1 w1) :
    Code.wp E6.P (seqL (postC 2 rgC)) Q b1 w1 := by
  refine wp_seqP (by kernel_rfl) ?_
  refine StL.pieceD sound6 thom6 1000 (by decide) (by kernel_rfl) (rg_r4 g len k s b n c f) st ?_
  refine Holds.leaf ⟨rfl, fun b2 w2 st => ?_⟩
  show Code.wp E6.P (seqR (seqL (postC 2 rgC))) _ b2 w2
  refine wp_blockP (by kernel_rfl) ?_
  refine wp_loopP (by kernel_rfl) (fun M y w' => ∃ (i : Nat), M = c - i ∧ i ≤ c ∧ lowQ 0 (intL c f) = lowQ i ((intL c f).drop i) ∧
    StL ρ0 w 99 ([1, 2, 4, 7].zip [slI 3 c, .ptr 2 (.c 0), .ptr 1 (.c 0), .int .i64 false (i : Int)]) [opsO len k s b n, zC, scB g (slO len), intsO c f] y w') ?_ ⟨0, rfl, Nat.zero_le _, by simp, st.conv rfl rfl⟩
  rintro _ b3 w3 ⟨i, rfl, hi, hacc, st⟩
  refine StL.pieceD sound6 thom6 1000 (by decide) (by kernel_rfl) (rg_a g len k s b n c f i) st ?_
  refine Holds.node (fun h2 => ?_) fun h2 => ?_
  · have hlt : i < c := by simpa using h2
    have hblt : i.blt c = true := blt_true hlt
    rw [intL_drop hlt, lowQ] at hacc
    refine Holds.yesB (by simp [hblt]) (Holds.yesB hblt (Holds.node (fun h3 => ?_) fun h3 => ?_))
    · refine .leaf ⟨rfl, fun b4 w4 st => k1 ?_ b4 w4 st⟩
      rw [hacc, if_pos (by simpa using h3)]
      omega
    · refine .leaf ⟨rfl, fun b4 w4 st => ⟨c - (i + 1), by omega, i + 1, rfl, hlt, ?_, st.conv ?_ rfl⟩⟩
      · rw [hacc, if_neg (by simpa using h3)]
        rfl
      · simp only [dens, SV.den, wrap_succ hlt hc]
  · have hge : i = c := by simp at h2; omega
    refine .leaf ⟨rfl, fun b4 w4 st => k2 ?_ b4 w4 st⟩
    rw [hacc, hge, List.drop_eq_nil_of_le (by rw [intL_length]; exact Nat.le_refl _)]
    show (-1 : Int) < 0
    decide
theorem rg_zlow (g : SetD) (c : Nat) (f : Nat → Int) {ρ0 : Emb} {w : World} (hc : c ≤ 70368744177664) {Q : Exit → Act → World → Prop} (k1 : 0 ≤ lowQ 0 (intL c f) → ∀ b1 w1, StL ρ0 w 99 ([5, 4].zip [.int .i64 true 3, .ptr 0 (.c 0)]) [zC] b1 w1 → Q .ret b1 w1)
    (k2 : lowQ 0 (intL c f) < 0 → ∀ b1 w1, StL ρ0 w 99 ([1, 2, 4].zip [slI 2 c, .ptr 1 (.c 0), .ptr 0 (.c 0)]) [zC, scB g nilO, intsO c f] b1 w1 → Q .normal b1 w1) (b1 : Act) (w1 : World) (st : StL ρ0 w 99 ([1, 2, 4].zip [slI 2 c, .ptr 1 (.c 0), .ptr 0 (.c 0)]) [zC, scB g nilO, intsO c f] b1 w1) :
    Code.wp E6.P (seqL (postC 2 rgC)) Q b1 w1 := by
  refine wp_seqP (by kernel_rfl) ?_
  refine StL.pieceD sound6 thom6 1000 (by decide) (by kernel_rfl) (rg_zr4 g c f) st ?_
  refine Holds.leaf ⟨rfl, fun b2 w2 st => ?_⟩
  show Code.wp E6.P (seqR (seqL (postC 2 rgC))) _ b2 w2
  refine wp_blockP (by kernel_rfl) ?_
  refine wp_loopP (by kernel_rfl) (fun M y w' => ∃ (i : Nat), M = c - i ∧ i ≤ c ∧ lowQ 0 (intL c f) = lowQ i ((intL c f).drop i) ∧
    StL ρ0 w 99 ([1, 2, 4, 7].zip [slI 2 c, .ptr 1 (.c 0), .ptr 0 (.c 0), .int .i64 false (i : Int)]) [zC, scB g nilO, intsO c f] y w') ?_ ⟨0, rfl, Nat.zero_le _, by simp, st.conv rfl rfl⟩
  rintro _ b3 w3 ⟨i, rfl, hi, hacc, st⟩
  refine StL.pieceD sound6 thom6 1000 (by decide) (by kernel_rfl) (rg_za g c f i) st ?_
  refine Holds.node (fun h2 => ?_) fun h2 => ?_
  · have hlt : i < c := by simpa using h2
    have hblt : i.blt c = true := blt_true hlt
    rw [intL_drop hlt, lowQ] at hacc
    refine Holds.yesB (by simp [hblt]) (Holds.yesB hblt (Holds.node (fun h3 => ?_) fun h3 => ?_))
    · refine .leaf ⟨rfl, fun b4 w4 st => k1 ?_ b4 w4 st⟩
      rw [hacc, if_pos (by simpa using h3)]
      omega
    · refine .leaf ⟨rfl, fun b4 w4 st => ⟨c - (i + 1), by omega, i + 1, rfl, hlt, ?_, st.conv ?_ rfl⟩⟩
      · rw [hacc, if_neg (by simpa using h3)]
        rfl
      · simp only [dens, SV.den, wrap_succ hlt hc]
  · have hge : i = c := by simp at h2; omega
    refine .leaf ⟨rfl, fun b4 w4 st => k2 ?_ b4 w4 st⟩
    rw [hacc, hge, List.drop_eq_nil_of_le (by rw [intL_length]; exact Nat.le_refl _)]
    show (-1 : Int) < 0
    decide
end Go.Ev
end
section
set_option maxRecDepth 100000
set_option linter.unusedVariables false
namespace Go.Ev
open Go.Proofs Go.RowKit
theorem rg_arr0 (g : SetD) (len : Nat) (k s : Nat → Int) (b : Nat → ByteArray) (n : Nat → Int) {ρ0 : Emb} {w : World} {args' : Array Value} (hlen : len ≤ 70368744177664) (hG : frG (checkQ r9V oneV) g (opsL len k s b n) = true) (hro : ∀ i g, ρ0 i = .img g → g.rw = false)
    (wr : WRel ρ0 (mkH [opsO len k s b n]).den w) (ra : VsRel ρ0 (dens [scrS g (slO len), nilO]) args'.toList) :
    Calls E6.P 10 args' w (FrEnd ρ0 w (fragR (checkQ r9V oneV) g (opsL len k s b n) [])) := by
  refine calls_StL rgF_some rgC_some rgF_n (by decide) (by simp) wr ra fun bb st => ?_
  refine StL.preD sound6 thom6 1000 1 (by decide) rgC_plans (by kernel_rfl) (rg_pre0 g len k s b n) st ?_
  refine Holds.yesB (bleQ len) (Holds.yesB (Nat.ble_eq_true_of_le hlen) (Holds.node (fun h0 => ?_) fun h0 => ?_))
  · have h0 : checkQ r9V oneV g (opsL len k s b n) ≠ 0 := by simpa using h0
    exact .leaf ⟨rfl, fun b1 w1 st => rg_end0 zSet _ _ b1 w1 (zC_conv (s := [5, 4]) st) (by rw [fragR, if_pos h0])⟩
  have hck : checkQ r9V oneV g (opsL len k s b n) = 0 := by simpa using h0
  have hnk : ¬ checkQ r9V oneV g (opsL len k s b n) ≠ 0 := by simp [hck]
  obtain ⟨hsum, hl4⟩ := frG_spec hG hck
  rw [opsL_length] at hl4
  refine .leaf ⟨rfl, fun b1 w1 st => ?_⟩
  show Code.wp E6.P (postC 2 rgC) (bodyPostD E6.P rgF _) b1 w1
  refine wp_seqP (by kernel_rfl) ?_
  have key : lowQ 0 [] < 0 → ∀ b1 w1, StL ρ0 w 99 ([1, 2, 4].zip [nilO, .ptr 2 (.c 0), .ptr 1 (.c 0)]) [opsO len k s b n, zC, scB g (slO len)] b1 w1 →
      Code.wp E6.P (postC 3 rgC) (bodyPostD E6.P rgF (FrEnd ρ0 w (fragR (checkQ r9V oneV) g (opsL len k s b n) []))) b1 w1 := by
    intro hlow b1 w1 st
    have hnl : ¬ 0 ≤ lowQ 0 [] := by omega
    refine StL.preD sound6 thom6 1000 1 (by decide) (by kernel_rfl) (by kernel_rfl) (rg_mid0 g len k s b n) st ?_
    refine Holds.leaf ⟨rfl, fun b2 w2 st => ?_⟩
    show Code.wp E6.P (postC 5 rgC) _ b2 w2
    refine wp_seqP (by kernel_rfl) ?_
    refine wp_seqP (by kernel_rfl) ?_
    refine StL.pieceD sound6 thom6 1000 (by decide) (by kernel_rfl) (rg_r110 g len k s b n) st ?_
    refine Holds.leaf ⟨rfl, fun b2 w2 st => ?_⟩
    show Code.wp E6.P (seqR (seqL (postC 5 rgC))) _ b2 w2
    refine rg_loop0 g len k s b n hl4 hsum (fun b3 w3 st => ?_) b2 w2 (st.conv rfl rfl)
    show Code.wp E6.P (seqR (postC 5 rgC)) _ b3 w3
    cases hq : fragQ [] 0 (opsL len k s b n) with
    | nil =>
      rw [hq] at st
      refine StL.pieceD sound6 thom6 1000 (by decide) (by kernel_rfl) (rg_fin0 g) st ?_
      exact Holds.leaf ⟨rfl, fun b4 w4 st => rg_end0 g 0 true b4 w4 st (by rw [fragR, if_neg hnk, if_neg hnl, hq]; rfl)⟩
    | cons p L =>
      rw [hq] at st
      refine StL.pieceD sound6 thom6 1000 (by decide) (by kernel_rfl) (rg_fin1 g (p :: L).length (fk (p :: L)) (fs (p :: L)) (fb (p :: L)) (fn (p :: L))) st ?_
      refine Holds.node (fun h2 => ?_) fun h2 => ?_
      · have h2 : 400 < (p :: L).length := by
          have : (((p :: L).length : Nat) : Int) > 400 := by simpa using h2
          omega
        exact .leaf ⟨rfl, fun b4 w4 st => rg_end2 zSet 6 true (p :: L).length (fk (p :: L)) (fs (p :: L)) (fb (p :: L)) (fn (p :: L)) b4 w4 (zC_conv2 (s := [5, 4]) st) (by rw [fragR, if_neg hnk, if_neg hnl, hq, if_pos h2])⟩
      · have h2 : ¬ 400 < (p :: L).length := by
          have : ¬ (((p :: L).length : Nat) : Int) > 400 := by simpa using h2
          omega
        exact .leaf ⟨rfl, fun b4 w4 st => rg_end1 g 0 true p L b4 w4 st (by rw [fragR, if_neg hnk, if_neg hnl, hq, if_neg h2])⟩
  refine StL.pieceD sound6 thom6 1000 (by decide) (by kernel_rfl) (rg_a0 g len k s b n) st ?_
  exact Holds.leaf ⟨rfl, fun b2 w2 st => key (by decide) b2 w2 st⟩
theorem rg_nil0 (g : SetD) {ρ0 : Emb} {w : World} {args' : Array Value} (hro : ∀ i g, ρ0 i = .img g → g.rw = false)
    (wr : WRel ρ0 (mkH []).den w) (ra : VsRel ρ0 (dens [scrS g nilO, nilO]) args'.toList) :
    Calls E6.P 10 args' w (FrEnd ρ0 w (fragR (checkQ r9V oneV) g [] [])) := by
  refine calls_StL rgF_some rgC_some rgF_n (by decide) (by simp) wr ra fun bb st => ?_
  refine StL.pieceD sound6 thom6 1000 (by decide) rgC_plans (rg_z0 g) st ?_
  refine Holds.node (fun h0 => ?_) fun h0 => ?_
  · have h0 : checkQ r9V oneV g [] ≠ 0 := by simpa using h0
    exact .leaf ⟨rfl, fun b1 w1 st => rg_end0 zSet _ _ b1 w1 (zC_conv (s := [5, 4]) st) (by rw [fragR, if_pos h0])⟩
  · have hnk : ¬ checkQ r9V oneV g [] ≠ 0 := by simpa using h0
    exact .leaf ⟨rfl, fun b1 w1 st => rg_end0 g 0 true b1 w1 st (by rw [fragR, if_neg hnk, if_neg (by decide)]; rfl)⟩
theorem rg_arr1 (g : SetD) (len : Nat) (k s : Nat → Int) (b : Nat → ByteArray) (n : Nat → Int) (c : Nat) (f : Nat → Int) {ρ0 : Emb} {w : World} {args' : Array Value} (hlen : len ≤ 70368744177664) (hcl : c ≤ 70368744177664) (hG : frG (checkQ r9V oneV) g (opsL len k s b n) = true) (hro : ∀ i g, ρ0 i = .img g → g.rw = false)
    (wr : WRel ρ0 (mkH [opsO len k s b n, intsO c f]).den w) (ra : VsRel ρ0 (dens [scrS g (slO len), slI 1 c]) args'.toList) :
    Calls E6.P 10 args' w (FrEnd ρ0 w (fragR (checkQ r9V oneV) g (opsL len k s b n) (intL c f))) := by
  refine calls_StL rgF_some rgC_some rgF_n (by decide) (by simp) wr ra fun bb st => ?_
  refine StL.preD sound6 thom6 1000 1 (by decide) rgC_plans (by kernel_rfl) (rg_pre1 g len k s b n c f) st ?_
  refine Holds.yesB (bleQ len) (Holds.yesB (Nat.ble_eq_true_of_le hlen) (Holds.node (fun h0 => ?_) fun h0 => ?_))
  · have h0 : checkQ r9V oneV g (opsL len k s b n) ≠ 0 := by simpa using h0
    exact .leaf ⟨rfl, fun b1 w1 st => rg_end0 zSet _ _ b1 w1 (zC_conv (s := [5, 4]) st) (by rw [fragR, if_pos h0])⟩
  have hck : checkQ r9V oneV g (opsL len k s b n) = 0 := by simpa using h0
  have hnk : ¬ checkQ r9V oneV g (opsL len k s b n) ≠ 0 := by simp [hck]
  obtain ⟨hsum, hl4⟩ := frG_spec hG hck
  rw [opsL_length] at hl4
  refine .leaf ⟨rfl, fun b1 w1 st => ?_⟩
  show Code.wp E6.P (postC 2 rgC) (bodyPostD E6.P rgF _) b1 w1
  refine wp_seqP (by kernel_rfl) ?_
  have key : lowQ 0 (intL c f) < 0 → ∀ b1 w1, StL ρ0 w 99 ([1, 2, 4].zip [slI 3 c, .ptr 2 (.c 0), .ptr 1 (.c 0)]) [opsO len k s b n, zC, scB g (slO len), intsO c f] b1 w1 →
      Code.wp E6.P (postC 3 rgC) (bodyPostD E6.P rgF (FrEnd ρ0 w (fragR (checkQ r9V oneV) g (opsL len k s b n) (intL c f)))) b1 w1 := by
    intro hlow b1 w1 st
    have hnl : ¬ 0 ≤ lowQ 0 (intL c f) := by omega
    refine StL.preD sound6 thom6 1000 1 (by decide) (by kernel_rfl) (by kernel_rfl) (rg_mid1 g len k s b n c f) st ?_
    refine Holds.leaf ⟨rfl, fun b2 w2 st => ?_⟩
    show Code.wp E6.P (postC 5 rgC) _ b2 w2
    refine wp_seqP (by kernel_rfl) ?_
    refine wp_seqP (by kernel_rfl) ?_
    refine StL.pieceD sound6 thom6 1000 (by decide) (by kernel_rfl) (rg_r111 g len k s b n c f) st ?_
    refine Holds.leaf ⟨rfl, fun b2 w2 st => ?_⟩
    show Code.wp E6.P (seqR (seqL (postC 5 rgC))) _ b2 w2
    refine rg_loop1 g len k s b n c f hlow hl4 hsum (fun b3 w3 st => ?_) b2 w2 (st.conv rfl rfl)
    show Code.wp E6.P (seqR (postC 5 rgC)) _ b3 w3
    cases hq : fragQ (intL c f) 0 (opsL len k s b n) with
    | nil =>
      rw [hq] at st
      refine StL.pieceD sound6 thom6 1000 (by decide) (by kernel_rfl) (rg_fin0 g) st ?_
      exact Holds.leaf ⟨rfl, fun b4 w4 st => rg_end0 g 0 true b4 w4 st (by rw [fragR, if_neg hnk, if_neg hnl, hq]; rfl)⟩
    | cons p L =>
      rw [hq] at st
      refine StL.pieceD sound6 thom6 1000 (by decide) (by kernel_rfl) (rg_fin1 g (p :: L).length (fk (p :: L)) (fs (p :: L)) (fb (p :: L)) (fn (p :: L))) st ?_
      refine Holds.node (fun h2 => ?_) fun h2 => ?_
      · have h2 : 400 < (p :: L).length := by
          have : (((p :: L).length : Nat) : Int) > 400 := by simpa using h2
          omega
        exact .leaf ⟨rfl, fun b4 w4 st => rg_end2 zSet 6 true (p :: L).length (fk (p :: L)) (fs (p :: L)) (fb (p :: L)) (fn (p :: L)) b4 w4 (zC_conv2 (s := [5, 4]) st) (by rw [fragR, if_neg hnk, if_neg hnl, hq, if_pos h2])⟩
      · have h2 : ¬ 400 < (p :: L).length := by
          have : ¬ (((p :: L).length : Nat) : Int) > 400 := by simpa using h2
          omega
        exact .leaf ⟨rfl, fun b4 w4 st => rg_end1 g 0 true p L b4 w4 st (by rw [fragR, if_neg hnk, if_neg hnl, hq, if_neg h2])⟩
  refine rg_low g len k s b n c f hcl (fun h1 b2 w2 st => ?_) (fun h1 b2 w2 st => key h1 b2 w2 st) b1 w1 st
  exact rg_end0 zSet 3 true b2 w2 (zC_conv (s := [5, 4]) st) (by rw [fragR, if_neg hnk, if_pos h1])
theorem rg_nil1 (g : SetD) (c : Nat) (f : Nat → Int) {ρ0 : Emb} {w : World} {args' : Array Value} (hcl : c ≤ 70368744177664) (hro : ∀ i g, ρ0 i = .img g → g.rw = false)
    (wr : WRel ρ0 (mkH [intsO c f]).den w) (ra : VsRel ρ0 (dens [scrS g nilO, slI 0 c]) args'.toList) :
    Calls E6.P 10 args' w (FrEnd ρ0 w (fragR (checkQ r9V oneV) g [] (intL c f))) := by
  refine calls_StL rgF_some rgC_some rgF_n (by decide) (by simp) wr ra fun bb st => ?_
  refine StL.preD sound6 thom6 1000 1 (by decide) rgC_plans (by kernel_rfl) (rg_zpre1 g c f) st ?_
  refine Holds.node (fun h0 => ?_) fun h0 => ?_
  · have h0 : checkQ r9V oneV g [] ≠ 0 := by simpa using h0
    exact .leaf ⟨rfl, fun b1 w1 st => rg_end0 zSet _ _ b1 w1 (zC_conv (s := [5, 4]) st) (by rw [fragR, if_pos h0])⟩
  have hck : checkQ r9V oneV g [] = 0 := by simpa using h0
  have hnk : ¬ checkQ r9V oneV g [] ≠ 0 := by simp [hck]
  refine .leaf ⟨rfl, fun b1 w1 st => ?_⟩
  show Code.wp E6.P (postC 2 rgC) (bodyPostD E6.P rgF _) b1 w1
  refine wp_seqP (by kernel_rfl) ?_
  refine rg_zlow g c f hcl (fun h1 b2 w2 st => ?_) (fun h1 b2 w2 st => ?_) b1 w1 st
  · exact rg_end0 zSet 3 true b2 w2 (zC_conv (s := [5, 4]) st) (by rw [fragR, if_neg hnk, if_pos h1])
  · show Code.wp E6.P (postC 3 rgC) _ b2 w2
    have hnl : ¬ 0 ≤ lowQ 0 (intL c f) := by omega
    refine StL.pieceD sound6 thom6 1000 (by decide) (by kernel_rfl) (rg_zfin g c f) st ?_
    exact Holds.leaf ⟨rfl, fun b3 w3 st => rg_end0 g 0 true b3 w3 st (by rw [fragR, if_neg hnk, if_neg hnl]; rfl)⟩
theorem tab_rg : TabOK Tryz.prog 10 (frA (frG (checkQ r9V oneV)) (fragR (checkQ r9V oneV))) :=
  fr_tab (fun g ρ w args' _ hro wr ra => rg_nil0 g hro wr ra) (fun g m fv ρ w args' hm _ hro wr ra => rg_nil1 g m fv hm hro wr ra) (fun g len k s b n ρ w args' hl hG hro wr ra => rg_arr0 g len k s b n hl hG hro wr ra)
    (fun g len k s b n m fv ρ w args' hl hm hG hro wr ra => rg_arr1 g len k s b n m fv hl hm hG hro wr ra)
noncomputable def E7 : Env := (E6.add (one 9 (frA (frG (checkR csV opV)) (fragR (checkR csV opV))))).add (one 10 (frA (frG (checkQ r9V oneV)) (fragR (checkQ r9V oneV))))
noncomputable def S7 : STab := addS (oneSym 10 (frS (frG (checkQ r9V oneV)) (fragR (checkQ r9V oneV)))) (addS (oneSym 9 (frS (frG (checkR csV opV)) (fragR (checkR csV opV)))) S6)
theorem sound7 : Sound E7 := (sound6.add tab_fg).add tab_rg
theorem thom7 : TabHom E7 S7 := (thom6.add fr_hom).add fr_hom
end Go.Ev
end
section
set_option maxRecDepth 100000
set_option linter.unusedVariables false
namespace Go.Ev
open Go.Proofs Go.RowKit
/-! bagatellelaw10.HistoryFragments -/
noncomputable def lfC : Code := match Tryz.prog.funcs[3]? with | some fn => fn.body.getD .skip | none => .skip
noncomputable def lfF : Func := match Tryz.prog.funcs[3]? with | some fn => fn | none => default
theorem lfF_some : Tryz.prog.funcs[3]? = some lfF := by kernel_rfl
theorem lfC_some : lfF.body = some lfC := by kernel_rfl
theorem lfF_n : lfF.ntmps = 73 := by kernel_rfl
theorem lfC_plans : plansIn lfC = true := by kernel_rfl
noncomputable abbrev cpI (c : Nat) (f : Nat → Int) : SObj := .arr ⟨false, c⟩ [.int .i64 f] true
theorem lf_end {ρ0 : Emb} {w : World} (hro : ∀ i g, ρ0 i = .img g → g.rw = false) (b1 : Act) (w1 : World) (st : StL ρ0 w 73 ([4].zip [.bool true true]) [] b1 w1) :
    Leaves E7.P lfF b1.tmps (fun e w' => e = .returned (.bool true) ∧ Below w.heap.size w w') b1.defers .returning w1 := by
  refine StL.finish (vs := [.bool true true]) (fun j => by kernel_rfl) st fun ρ v' rv _ fr => ?_
  have := plainR_eq (v := .bool true) rfl rv
  exact ⟨by rw [this], below_of_ro hro fr⟩
theorem fragR_congr {chk chk' : SetD → List OpD → Int} {g : SetD} {ops : List OpD} (h : chk g ops = chk' g ops) (c : List Int) : fragR chk g ops c = fragR chk' g ops c := by
  unfold fragR
  rw [h]
theorem capI {x : Nat} (h : x ≤ 1000001000) : (Nat.ble x 70368744177664 && capRoom x 8) = true := by
  rw [Nat.ble_eq_true_of_le (by omega : x ≤ 70368744177664), Bool.true_and]
  exact Nat.ble_eq_true_of_le (by omega)
abbrev rTrue : View := ⟨.ret, [.bool true true], []⟩
abbrev rFalse : View := ⟨.ret, [.bool true false], []⟩
theorem lf_h00 (g : SetD) (j : Nat → Value) : (evalS E7 S7 1000 (preC 3 lfC) (mkA 73 (argL [scrS g nilO, nilO]) j) (mkH [])).mapO (viewD 73 (vselD ⟨[1, 2, 5, 6], [.of 2, .of 5, .of 6, .fld 5 11]⟩ ⟨[4], []⟩ ⟨[], []⟩)) =
    .node (longQ []) (.leaf rTrue) (.leaf ⟨.normal, [nilO, .ptr 0 (.c 0), .ptr 1 (.c 0), .sl 2 (.c 0) ⟨true, 0⟩ 1], [scB g (nilO), scB g (.sl 3 (.c 0) ⟨true, 0⟩ 4), .cells [] true, .cells [] true]⟩) := by kernel_rfl
theorem lf_p4_00 (g : SetD) (len : Nat) (k s : Nat → Int) (b : Nat → ByteArray) (n : Nat → Int) (c : Nat) (f : Nat → Int) (j : Nat → Value) : (evalS E7 S7 1000 (seqL (postC 3 lfC)) (mkA 73 ([1, 2, 5, 6].zip [nilO, .ptr 0 (.c 0), .ptr 1 (.c 0), .sl 2 (.c 0) ⟨false, c⟩ 1]) j) (mkH [scB g (nilO), scB g (slA 3 len), cpI c f, outA len k s b n])).mapO (viewD 73 (vselD ⟨[1, 2, 5, 6, 7, 8], [.of 2, .of 5, .of 6, .fld 5 11, .of 7, .opt 7 11]⟩ ⟨[4], []⟩ ⟨[], []⟩)) =
    .node ((Nat.div 0 4 + len).ble len) (.node (len.ble 70368744177664) (.node ((Nat.div 0 1 + c).ble c) (.node (c.ble 70368744177664) (.node (frG (checkR csV opV) g (opsL len k s b n)) (.node (fragR (checkR csV opV) g (opsL len k s b n) (intL c f)).2.1.isEmpty
      (.leaf ⟨.normal, [nilO, .ptr 0 (.c 0), .ptr 1 (.c 0), .sl 2 (.c 0) ⟨false, c⟩ 1, .ptr 4 (.c 0), .int .i64 false (fragR (checkR csV opV) g (opsL len k s b n) (intL c f)).2.2], [scB g (nilO), scB g (slA 3 len), cpI c f, outA len k s b n, scB (fragR (checkR csV opV) g (opsL len k s b n) (intL c f)).1 nilO]⟩)
      (.leaf ⟨.normal, [nilO, .ptr 0 (.c 0), .ptr 1 (.c 0), .sl 2 (.c 0) ⟨false, c⟩ 1, .ptr 4 (.c 0), .int .i64 false (fragR (checkR csV opV) g (opsL len k s b n) (intL c f)).2.2], [scB g (nilO), scB g (slA 3 len), cpI c f, outA len k s b n, scB (fragR (checkR csV opV) g (opsL len k s b n) (intL c f)).1 (slA 5 (fragR (checkR csV opV) g (opsL len k s b n) (intL c f)).2.1.length), outL (fragR (checkR csV opV) g (opsL len k s b n) (intL c f)).2.1]⟩)) .fail) .fail) .fail) .fail) .fail := by kernel_rfl
theorem lf_p5_000 (g : SetD) (len : Nat) (k s : Nat → Int) (b : Nat → ByteArray) (n : Nat → Int) (c : Nat) (f : Nat → Int) (ga : SetD) (ea : Int) (j : Nat → Value) : (evalS E7 S7 1000 (seqL (postC 4 lfC)) (mkA 73 ([1, 2, 5, 6, 7, 8].zip [nilO, .ptr 0 (.c 0), .ptr 1 (.c 0), .sl 2 (.c 0) ⟨false, c⟩ 1, .ptr 4 (.c 0), .int .i64 false ea]) j) (mkH [scB g (nilO), scB g (slA 3 len), cpI c f, outA len k s b n, scB ga nilO])).mapO (viewD 73 (vselD ⟨[1, 2, 5, 6, 7, 8, 9, 10], [.of 2, .of 5, .of 6, .fld 5 11, .of 7, .opt 7 11, .of 9, .opt 9 11]⟩ ⟨[4], []⟩ ⟨[], []⟩)) =
    .node (frG (checkQ r9V oneV) g []) (.node (fragR (checkQ r9V oneV) g [] []).2.1.isEmpty (.leaf ⟨.normal, [nilO, .ptr 0 (.c 0), .ptr 1 (.c 0), .sl 2 (.c 0) ⟨false, c⟩ 1, .ptr 4 (.c 0), .int .i64 false ea, .ptr 5 (.c 0), .int .i64 false (fragR (checkQ r9V oneV) g [] []).2.2], [scB g (nilO), scB g (slA 3 len), cpI c f, outA len k s b n, scB ga nilO, scB (fragR (checkQ r9V oneV) g [] []).1 nilO]⟩) (.leaf ⟨.normal, [nilO, .ptr 0 (.c 0), .ptr 1 (.c 0), .sl 2 (.c 0) ⟨false, c⟩ 1, .ptr 4 (.c 0), .int .i64 false ea, .ptr 5 (.c 0), .int .i64 false (fragR (checkQ r9V oneV) g [] []).2.2], [scB g (nilO), scB g (slA 3 len), cpI c f, outA len k s b n, scB ga nilO, scB (fragR (checkQ r9V oneV) g [] []).1 (slA 6 (fragR (checkQ r9V oneV) g [] []).2.1.length), outL (fragR (checkQ r9V oneV) g [] []).2.1]⟩)) .fail := by kernel_rfl
theorem lf_p6_000 (g : SetD) (len : Nat) (k s : Nat → Int) (b : Nat → ByteArray) (n : Nat → Int) (c : Nat) (f : Nat → Int) (ga : SetD) (ea : Int) (j : Nat → Value) : (evalS E7 S7 1000 (seqL (postC 5 lfC)) (mkA 73 ([1, 2, 5, 6, 7, 8, 9, 10].zip [nilO, .ptr 0 (.c 0), .ptr 1 (.c 0), .sl 2 (.c 0) ⟨false, c⟩ 1, .ptr 4 (.c 0), .int .i64 false ea, .ptr 5 (.c 0), .int .i64 false ea]) j) (mkH [scB g (nilO), scB g (slA 3 len), cpI c f, outA len k s b n, scB ga nilO, scB ga nilO])).mapO (viewD 73 (vselD ⟨[5, 7, 9], [.of 5, .fld 5 11, .of 7, .opt 7 11, .of 9, .opt 9 11]⟩ ⟨[4], []⟩ ⟨[], []⟩)) =
    .node (!(sameS ga [] ga [])) (.leaf rFalse) (.node (ea != ea) (.leaf rFalse) (.node ((Nat.div 0 1 + c).ble c) (.node (c.ble 70368744177664) (.node (!(sameI (intL c f) [])) (.leaf rFalse) (.leaf ⟨.normal, [.ptr 0 (.c 0), .ptr 2 (.c 0), .ptr 3 (.c 0)], [scB g (slA 1 len), outA len k s b n, scB ga nilO, scB ga nilO]⟩)) .fail) .fail)) := by kernel_rfl
theorem lf_p5_001 (g : SetD) (len : Nat) (k s : Nat → Int) (b : Nat → ByteArray) (n : Nat → Int) (c : Nat) (f : Nat → Int) (ga : SetD) (La : List OpD) (ea : Int) (j : Nat → Value) : (evalS E7 S7 1000 (seqL (postC 4 lfC)) (mkA 73 ([1, 2, 5, 6, 7, 8].zip [nilO, .ptr 0 (.c 0), .ptr 1 (.c 0), .sl 2 (.c 0) ⟨false, c⟩ 1, .ptr 4 (.c 0), .int .i64 false ea]) j) (mkH [scB g (nilO), scB g (slA 3 len), cpI c f, outA len k s b n, scB ga (slA 5 La.length), outL La])).mapO (viewD 73 (vselD ⟨[1, 2, 5, 6, 7, 8, 9, 10], [.of 2, .of 5, .of 6, .fld 5 11, .of 7, .opt 7 11, .of 9, .opt 9 11]⟩ ⟨[4], []⟩ ⟨[], []⟩)) =
    .node (frG (checkQ r9V oneV) g []) (.node (fragR (checkQ r9V oneV) g [] []).2.1.isEmpty (.leaf ⟨.normal, [nilO, .ptr 0 (.c 0), .ptr 1 (.c 0), .sl 2 (.c 0) ⟨false, c⟩ 1, .ptr 4 (.c 0), .int .i64 false ea, .ptr 6 (.c 0), .int .i64 false (fragR (checkQ r9V oneV) g [] []).2.2], [scB g (nilO), scB g (slA 3 len), cpI c f, outA len k s b n, scB ga (slA 5 La.length), outL La, scB (fragR (checkQ r9V oneV) g [] []).1 nilO]⟩) (.leaf ⟨.normal, [nilO, .ptr 0 (.c 0), .ptr 1 (.c 0), .sl 2 (.c 0) ⟨false, c⟩ 1, .ptr 4 (.c 0), .int .i64 false ea, .ptr 6 (.c 0), .int .i64 false (fragR (checkQ r9V oneV) g [] []).2.2], [scB g (nilO), scB g (slA 3 len), cpI c f, outA len k s b n, scB ga (slA 5 La.length), outL La, scB (fragR (checkQ r9V oneV) g [] []).1 (slA 7 (fragR (checkQ r9V oneV) g [] []).2.1.length), outL (fragR (checkQ r9V oneV) g [] []).2.1]⟩)) .fail := by kernel_rfl
theorem lf_p6_001 (g : SetD) (len : Nat) (k s : Nat → Int) (b : Nat → ByteArray) (n : Nat → Int) (c : Nat) (f : Nat → Int) (ga : SetD) (La : List OpD) (ea : Int) (j : Nat → Value) : (evalS E7 S7 1000 (seqL (postC 5 lfC)) (mkA 73 ([1, 2, 5, 6, 7, 8, 9, 10].zip [nilO, .ptr 0 (.c 0), .ptr 1 (.c 0), .sl 2 (.c 0) ⟨false, c⟩ 1, .ptr 4 (.c 0), .int .i64 false ea, .ptr 6 (.c 0), .int .i64 false ea]) j) (mkH [scB g (nilO), scB g (slA 3 len), cpI c f, outA len k s b n, scB ga (slA 5 La.length), outL La, scB ga (slA 7 La.length), outL La])).mapO (viewD 73 (vselD ⟨[5, 7, 9], [.of 5, .fld 5 11, .of 7, .opt 7 11, .of 9, .opt 9 11]⟩ ⟨[4], []⟩ ⟨[], []⟩)) =
    .node ((Nat.div 0 4 + La.length).ble La.length) (.node (La.length.ble 70368744177664) (.node ((Nat.div 0 4 + La.length).ble La.length) (.node (La.length.ble 70368744177664) (.node (!(sameS ga (opsL La.length (fk La) (fs La) (fb La) (fn La)) ga (opsL La.length (fk La) (fs La) (fb La) (fn La)))) (.leaf rFalse) (.node (ea != ea) (.leaf rFalse) (.node ((Nat.div 0 1 + c).ble c) (.node (c.ble 70368744177664) (.node (!(sameI (intL c f) [])) (.leaf rFalse) (.leaf ⟨.normal, [.ptr 0 (.c 0), .ptr 2 (.c 0), .ptr 4 (.c 0)], [scB g (slA 1 len), outA len k s b n, scB ga (slA 3 La.length), outL La, scB ga (slA 5 La.length), outL La]⟩)) .fail) .fail))) .fail) .fail) .fail) .fail := by kernel_rfl
theorem lf_h01 (g : SetD) (c : Nat) (f : Nat → Int) (j : Nat → Value) : (evalS E7 S7 1000 (preC 3 lfC) (mkA 73 (argL [scrS g nilO, slI 0 c]) j) (mkH [intsO c f])).mapO (viewD 73 (vselD ⟨[1, 2, 5, 6], [.of 2, .of 5, .of 6, .fld 5 11, .of 1]⟩ ⟨[4], []⟩ ⟨[], []⟩)) =
    .node (longQ []) (.leaf rTrue) (.node (decide ((c : Int) > 40)) (.leaf rTrue) (.node ((Nat.div 0 1 + c).ble c) (.node (c.beq 0) (.leaf ⟨.normal, [slI 4 c, .ptr 0 (.c 0), .ptr 1 (.c 0), .sl 2 (.c 0) ⟨true, 0⟩ 1], [scB g (nilO), scB g (.sl 3 (.c 0) ⟨true, 0⟩ 4), .cells [] true, .cells [] true, intsO c f]⟩) (.node ((0 + c).ble 70368744177664 && capRoom (0 + c) 8) (.leaf ⟨.normal, [slI 4 c, .ptr 0 (.c 0), .ptr 1 (.c 0), .sl 2 (.c 0) ⟨false, 0 + c⟩ 1], [scB g (nilO), scB g (.sl 3 (.c 0) ⟨true, 0⟩ 4), cpI c f, .cells [] true, intsO c f]⟩) .fail)) .fail)) := by kernel_rfl
theorem lf_p4_01 (g : SetD) (len : Nat) (k s : Nat → Int) (b : Nat → ByteArray) (n : Nat → Int) (c : Nat) (f : Nat → Int) (j : Nat → Value) : (evalS E7 S7 1000 (seqL (postC 3 lfC)) (mkA 73 ([1, 2, 5, 6].zip [slI 4 c, .ptr 0 (.c 0), .ptr 1 (.c 0), .sl 2 (.c 0) ⟨false, c⟩ 1]) j) (mkH [scB g (nilO), scB g (slA 3 len), cpI c f, outA len k s b n, intsO c f])).mapO (viewD 73 (vselD ⟨[1, 2, 5, 6, 7, 8], [.of 2, .of 5, .of 6, .fld 5 11, .of 1, .of 7, .opt 7 11]⟩ ⟨[4], []⟩ ⟨[], []⟩)) =
    .node ((Nat.div 0 4 + len).ble len) (.node (len.ble 70368744177664) (.node ((Nat.div 0 1 + c).ble c) (.node (c.ble 70368744177664) (.node (frG (checkR csV opV) g (opsL len k s b n)) (.node (fragR (checkR csV opV) g (opsL len k s b n) (intL c f)).2.1.isEmpty
      (.leaf ⟨.normal, [slI 4 c, .ptr 0 (.c 0), .ptr 1 (.c 0), .sl 2 (.c 0) ⟨false, c⟩ 1, .ptr 5 (.c 0), .int .i64 false (fragR (checkR csV opV) g (opsL len k s b n) (intL c f)).2.2], [scB g (nilO), scB g (slA 3 len), cpI c f, outA len k s b n, intsO c f, scB (fragR (checkR csV opV) g (opsL len k s b n) (intL c f)).1 nilO]⟩)
      (.leaf ⟨.normal, [slI 4 c, .ptr 0 (.c 0), .ptr 1 (.c 0), .sl 2 (.c 0) ⟨false, c⟩ 1, .ptr 5 (.c 0), .int .i64 false (fragR (checkR csV opV) g (opsL len k s b n) (intL c f)).2.2], [scB g (nilO), scB g (slA 3 len), cpI c f, outA len k s b n, intsO c f, scB (fragR (checkR csV opV) g (opsL len k s b n) (intL c f)).1 (slA 6 (fragR (checkR csV opV) g (opsL len k s b n) (intL c f)).2.1.length), outL (fragR (checkR csV opV) g (opsL len k s b n) (intL c f)).2.1]⟩)) .fail) .fail) .fail) .fail) .fail := by kernel_rfl
theorem lf_p5_010 (g : SetD) (len : Nat) (k s : Nat → Int) (b : Nat → ByteArray) (n : Nat → Int) (c : Nat) (f : Nat → Int) (ga : SetD) (ea : Int) (j : Nat → Value) : (evalS E7 S7 1000 (seqL (postC 4 lfC)) (mkA 73 ([1, 2, 5, 6, 7, 8].zip [slI 4 c, .ptr 0 (.c 0), .ptr 1 (.c 0), .sl 2 (.c 0) ⟨false, c⟩ 1, .ptr 5 (.c 0), .int .i64 false ea]) j) (mkH [scB g (nilO), scB g (slA 3 len), cpI c f, outA len k s b n, intsO c f, scB ga nilO])).mapO (viewD 73 (vselD ⟨[1, 2, 5, 6, 7, 8, 9, 10], [.of 2, .of 5, .of 6, .fld 5 11, .of 1, .of 7, .opt 7 11, .of 9, .opt 9 11]⟩ ⟨[4], []⟩ ⟨[], []⟩)) =
    .node ((Nat.div 0 1 + c).ble c) (.node (c.ble 70368744177664) (.node (frG (checkQ r9V oneV) g []) (.node (fragR (checkQ r9V oneV) g [] (intL c f)).2.1.isEmpty (.leaf ⟨.normal, [slI 4 c, .ptr 0 (.c 0), .ptr 1 (.c 0), .sl 2 (.c 0) ⟨false, c⟩ 1, .ptr 5 (.c 0), .int .i64 false ea, .ptr 6 (.c 0), .int .i64 false (fragR (checkQ r9V oneV) g [] (intL c f)).2.2], [scB g (nilO), scB g (slA 3 len), cpI c f, outA len k s b n, intsO c f, scB ga nilO, scB (fragR (checkQ r9V oneV) g [] (intL c f)).1 nilO]⟩) (.leaf ⟨.normal, [slI 4 c, .ptr 0 (.c 0), .ptr 1 (.c 0), .sl 2 (.c 0) ⟨false, c⟩ 1, .ptr 5 (.c 0), .int .i64 false ea, .ptr 6 (.c 0), .int .i64 false (fragR (checkQ r9V oneV) g [] (intL c f)).2.2], [scB g (nilO), scB g (slA 3 len), cpI c f, outA len k s b n, intsO c f, scB ga nilO, scB (fragR (checkQ r9V oneV) g [] (intL c f)).1 (slA 7 (fragR (checkQ r9V oneV) g [] (intL c f)).2.1.length), outL (fragR (checkQ r9V oneV) g [] (intL c f)).2.1]⟩)) .fail) .fail) .fail := by kernel_rfl
theorem lf_p6_010 (g : SetD) (len : Nat) (k s : Nat → Int) (b : Nat → ByteArray) (n : Nat → Int) (c : Nat) (f : Nat → Int) (ga : SetD) (ea : Int) (j : Nat → Value) : (evalS E7 S7 1000 (seqL (postC 5 lfC)) (mkA 73 ([1, 2, 5, 6, 7, 8, 9, 10].zip [slI 4 c, .ptr 0 (.c 0), .ptr 1 (.c 0), .sl 2 (.c 0) ⟨false, c⟩ 1, .ptr 5 (.c 0), .int .i64 false ea, .ptr 6 (.c 0), .int .i64 false ea]) j) (mkH [scB g (nilO), scB g (slA 3 len), cpI c f, outA len k s b n, intsO c f, scB ga nilO, scB ga nilO])).mapO (viewD 73 (vselD ⟨[5, 7, 9], [.of 5, .fld 5 11, .of 7, .opt 7 11, .of 9, .opt 9 11]⟩ ⟨[4], []⟩ ⟨[], []⟩)) =
    .node (!(sameS ga [] ga [])) (.leaf rFalse) (.node (ea != ea) (.leaf rFalse) (.node ((Nat.div 0 1 + c).ble c) (.node (c.ble 70368744177664) (.node ((Nat.div 0 1 + c).ble c) (.node (c.ble 70368744177664) (.node (!(sameI (intL c f) (intL c f))) (.leaf rFalse) (.leaf ⟨.normal, [.ptr 0 (.c 0), .ptr 2 (.c 0), .ptr 3 (.c 0)], [scB g (slA 1 len), outA len k s b n, scB ga nilO, scB ga nilO]⟩)) .fail) .fail) .fail) .fail)) := by kernel_rfl
theorem lf_p5_011 (g : SetD) (len : Nat) (k s : Nat → Int) (b : Nat → ByteArray) (n : Nat → Int) (c : Nat) (f : Nat → Int) (ga : SetD) (La : List OpD) (ea : Int) (j : Nat → Value) : (evalS E7 S7 1000 (seqL (postC 4 lfC)) (mkA 73 ([1, 2, 5, 6, 7, 8].zip [slI 4 c, .ptr 0 (.c 0), .ptr 1 (.c 0), .sl 2 (.c 0) ⟨false, c⟩ 1, .ptr 5 (.c 0), .int .i64 false ea]) j) (mkH [scB g (nilO), scB g (slA 3 len), cpI c f, outA len k s b n, intsO c f, scB ga (slA 6 La.length), outL La])).mapO (viewD 73 (vselD ⟨[1, 2, 5, 6, 7, 8, 9, 10], [.of 2, .of 5, .of 6, .fld 5 11, .of 1, .of 7, .opt 7 11, .of 9, .opt 9 11]⟩ ⟨[4], []⟩ ⟨[], []⟩)) =
    .node ((Nat.div 0 1 + c).ble c) (.node (c.ble 70368744177664) (.node (frG (checkQ r9V oneV) g []) (.node (fragR (checkQ r9V oneV) g [] (intL c f)).2.1.isEmpty (.leaf ⟨.normal, [slI 4 c, .ptr 0 (.c 0), .ptr 1 (.c 0), .sl 2 (.c 0) ⟨false, c⟩ 1, .ptr 5 (.c 0), .int .i64 false ea, .ptr 7 (.c 0), .int .i64 false (fragR (checkQ r9V oneV) g [] (intL c f)).2.2], [scB g (nilO), scB g (slA 3 len), cpI c f, outA len k s b n, intsO c f, scB ga (slA 6 La.length), outL La, scB (fragR (checkQ r9V oneV) g [] (intL c f)).1 nilO]⟩) (.leaf ⟨.normal, [slI 4 c, .ptr 0 (.c 0), .ptr 1 (.c 0), .sl 2 (.c 0) ⟨false, c⟩ 1, .ptr 5 (.c 0), .int .i64 false ea, .ptr 7 (.c 0), .int .i64 false (fragR (checkQ r9V oneV) g [] (intL c f)).2.2], [scB g (nilO), scB g (slA 3 len), cpI c f, outA len k s b n, intsO c f, scB ga (slA 6 La.length), outL La, scB (fragR (checkQ r9V oneV) g [] (intL c f)).1 (slA 8 (fragR (checkQ r9V oneV) g [] (intL c f)).2.1.length), outL (fragR (checkQ r9V oneV) g [] (intL c f)).2.1]⟩)) .fail) .fail) .fail := by kernel_rfl
theorem lf_p6_011 (g : SetD) (len : Nat) (k s : Nat → Int) (b : Nat → ByteArray) (n : Nat → Int) (c : Nat) (f : Nat → Int) (ga : SetD) (La : List OpD) (ea : Int) (j : Nat → Value) : (evalS E7 S7 1000 (seqL (postC 5 lfC)) (mkA 73 ([1, 2, 5, 6, 7, 8, 9, 10].zip [slI 4 c, .ptr 0 (.c 0), .ptr 1 (.c 0), .sl 2 (.c 0) ⟨false, c⟩ 1, .ptr 5 (.c 0), .int .i64 false ea, .ptr 7 (.c 0), .int .i64 false ea]) j) (mkH [scB g (nilO), scB g (slA 3 len), cpI c f, outA len k s b n, intsO c f, scB ga (slA 6 La.length), outL La, scB ga (slA 8 La.length), outL La])).mapO (viewD 73 (vselD ⟨[5, 7, 9], [.of 5, .fld 5 11, .of 7, .opt 7 11, .of 9, .opt 9 11]⟩ ⟨[4], []⟩ ⟨[], []⟩)) =
    .node ((Nat.div 0 4 + La.length).ble La.length) (.node (La.length.ble 70368744177664) (.node ((Nat.div 0 4 + La.length).ble La.length) (.node (La.length.ble 70368744177664) (.node (!(sameS ga (opsL La.length (fk La) (fs La) (fb La) (fn La)) ga (opsL La.length (fk La) (fs La) (fb La) (fn La)))) (.leaf rFalse) (.node (ea != ea) (.leaf rFalse) (.node ((Nat.div 0 1 + c).ble c) (.node (c.ble 70368744177664) (.node ((Nat.div 0 1 + c).ble c) (.node (c.ble 70368744177664) (.node (!(sameI (intL c f) (intL c f))) (.leaf rFalse) (.leaf ⟨.normal, [.ptr 0 (.c 0), .ptr 2 (.c 0), .ptr 4 (.c 0)], [scB g (slA 1 len), outA len k s b n, scB ga (slA 3 La.length), outL La, scB ga (slA 5 La.length), outL La]⟩)) .fail) .fail) .fail) .fail))) .fail) .fail) .fail) .fail := by kernel_rfl
theorem lf_h10 (g : SetD) (len : Nat) (k s : Nat → Int) (b : Nat → ByteArray) (n : Nat → Int) (j : Nat → Value) : (evalS E7 S7 1000 (preC 3 lfC) (mkA 73 (argL [scrS g (slO len), nilO]) j) (mkH [opsO len k s b n])).mapO (viewD 73 (vselD ⟨[1, 2, 5, 6], [.of 2, .of 5, .of 6, .fld 5 11, .fld 2 11]⟩ ⟨[4], []⟩ ⟨[], []⟩)) =
    .node ((Nat.div 0 4 + len).ble len) (.node (len.ble 70368744177664) (.node (longQ (opsL len k s b n)) (.leaf rTrue) (.node ((Nat.div 0 4 + len).ble len) (.node (len.beq 0) (.leaf ⟨.normal, [nilO, .ptr 0 (.c 0), .ptr 1 (.c 0), .sl 2 (.c 0) ⟨true, 0⟩ 1], [scB g (slA 4 len), scB g (.sl 3 (.c 0) ⟨true, 0⟩ 4), .cells [] true, .cells [] true, opsO len k s b n]⟩) (.node ((0 + len).ble 70368744177664 && capRoom (0 + len) 40) (.leaf ⟨.normal, [nilO, .ptr 0 (.c 0), .ptr 1 (.c 0), .sl 2 (.c 0) ⟨true, 0⟩ 1], [scB g (slA 4 len), scB g (.sl 3 (.c 0) ⟨false, 0 + len⟩ 4), .cells [] true, outA len k s b n, opsO len k s b n]⟩) .fail)) .fail)) .fail) .fail := by kernel_rfl
theorem lf_p4_10 (g : SetD) (len : Nat) (k s : Nat → Int) (b : Nat → ByteArray) (n : Nat → Int) (c : Nat) (f : Nat → Int) (j : Nat → Value) : (evalS E7 S7 1000 (seqL (postC 3 lfC)) (mkA 73 ([1, 2, 5, 6].zip [nilO, .ptr 0 (.c 0), .ptr 1 (.c 0), .sl 2 (.c 0) ⟨false, c⟩ 1]) j) (mkH [scB g (slA 4 len), scB g (slA 3 len), cpI c f, outA len k s b n, opsO len k s b n])).mapO (viewD 73 (vselD ⟨[1, 2, 5, 6, 7, 8], [.of 2, .of 5, .of 6, .fld 5 11, .fld 2 11, .of 7, .opt 7 11]⟩ ⟨[4], []⟩ ⟨[], []⟩)) =
    .node ((Nat.div 0 4 + len).ble len) (.node (len.ble 70368744177664) (.node ((Nat.div 0 1 + c).ble c) (.node (c.ble 70368744177664) (.node (frG (checkR csV opV) g (opsL len k s b n)) (.node (fragR (checkR csV opV) g (opsL len k s b n) (intL c f)).2.1.isEmpty
      (.leaf ⟨.normal, [nilO, .ptr 0 (.c 0), .ptr 1 (.c 0), .sl 2 (.c 0) ⟨false, c⟩ 1, .ptr 5 (.c 0), .int .i64 false (fragR (checkR csV opV) g (opsL len k s b n) (intL c f)).2.2], [scB g (slA 4 len), scB g (slA 3 len), cpI c f, outA len k s b n, opsO len k s b n, scB (fragR (checkR csV opV) g (opsL len k s b n) (intL c f)).1 nilO]⟩)
      (.leaf ⟨.normal, [nilO, .ptr 0 (.c 0), .ptr 1 (.c 0), .sl 2 (.c 0) ⟨false, c⟩ 1, .ptr 5 (.c 0), .int .i64 false (fragR (checkR csV opV) g (opsL len k s b n) (intL c f)).2.2], [scB g (slA 4 len), scB g (slA 3 len), cpI c f, outA len k s b n, opsO len k s b n, scB (fragR (checkR csV opV) g (opsL len k s b n) (intL c f)).1 (slA 6 (fragR (checkR csV opV) g (opsL len k s b n) (intL c f)).2.1.length), outL (fragR (checkR csV opV) g (opsL len k s b n) (intL c f)).2.1]⟩)) .fail) .fail) .fail) .fail) .fail := by kernel_rfl
theorem lf_p5_100 (g : SetD) (len : Nat) (k s : Nat → Int) (b : Nat → ByteArray) (n : Nat → Int) (c : Nat) (f : Nat → Int) (ga : SetD) (ea : Int) (j : Nat → Value) : (evalS E7 S7 1000 (seqL (postC 4 lfC)) (mkA 73 ([1, 2, 5, 6, 7, 8].zip [nilO, .ptr 0 (.c 0), .ptr 1 (.c 0), .sl 2 (.c 0) ⟨false, c⟩ 1, .ptr 5 (.c 0), .int .i64 false ea]) j) (mkH [scB g (slA 4 len), scB g (slA 3 len), cpI c f, outA len k s b n, opsO len k s b n, scB ga nilO])).mapO (viewD 73 (vselD ⟨[1, 2, 5, 6, 7, 8, 9, 10], [.of 2, .of 5, .of 6, .fld 5 11, .fld 2 11, .of 7, .opt 7 11, .of 9, .opt 9 11]⟩ ⟨[4], []⟩ ⟨[], []⟩)) =
    .node ((Nat.div 0 4 + len).ble len) (.node (len.ble 70368744177664) (.node (frG (checkQ r9V oneV) g (opsL len k s b n)) (.node (fragR (checkQ r9V oneV) g (opsL len k s b n) []).2.1.isEmpty (.leaf ⟨.normal, [nilO, .ptr 0 (.c 0), .ptr 1 (.c 0), .sl 2 (.c 0) ⟨false, c⟩ 1, .ptr 5 (.c 0), .int .i64 false ea, .ptr 6 (.c 0), .int .i64 false (fragR (checkQ r9V oneV) g (opsL len k s b n) []).2.2], [scB g (slA 4 len), scB g (slA 3 len), cpI c f, outA len k s b n, opsO len k s b n, scB ga nilO, scB (fragR (checkQ r9V oneV) g (opsL len k s b n) []).1 nilO]⟩) (.leaf ⟨.normal, [nilO, .ptr 0 (.c 0), .ptr 1 (.c 0), .sl 2 (.c 0) ⟨false, c⟩ 1, .ptr 5 (.c 0), .int .i64 false ea, .ptr 6 (.c 0), .int .i64 false (fragR (checkQ r9V oneV) g (opsL len k s b n) []).2.2], [scB g (slA 4 len), scB g (slA 3 len), cpI c f, outA len k s b n, opsO len k s b n, scB ga nilO, scB (fragR (checkQ r9V oneV) g (opsL len k s b n) []).1 (slA 7 (fragR (checkQ r9V oneV) g (opsL len k s b n) []).2.1.length), outL (fragR (checkQ r9V oneV) g (opsL len k s b n) []).2.1]⟩)) .fail) .fail) .fail := by kernel_rfl
theorem lf_p6_100 (g : SetD) (len : Nat) (k s : Nat → Int) (b : Nat → ByteArray) (n : Nat → Int) (c : Nat) (f : Nat → Int) (ga : SetD) (ea : Int) (j : Nat → Value) : (evalS E7 S7 1000 (seqL (postC 5 lfC)) (mkA 73 ([1, 2, 5, 6, 7, 8, 9, 10].zip [nilO, .ptr 0 (.c 0), .ptr 1 (.c 0), .sl 2 (.c 0) ⟨false, c⟩ 1, .ptr 5 (.c 0), .int .i64 false ea, .ptr 6 (.c 0), .int .i64 false ea]) j) (mkH [scB g (slA 4 len), scB g (slA 3 len), cpI c f, outA len k s b n, opsO len k s b n, scB ga nilO, scB ga nilO])).mapO (viewD 73 (vselD ⟨[5, 7, 9], [.of 5, .fld 5 11, .of 7, .opt 7 11, .of 9, .opt 9 11]⟩ ⟨[4], []⟩ ⟨[], []⟩)) =
    .node (!(sameS ga [] ga [])) (.leaf rFalse) (.node (ea != ea) (.leaf rFalse) (.node ((Nat.div 0 1 + c).ble c) (.node (c.ble 70368744177664) (.node (!(sameI (intL c f) [])) (.leaf rFalse) (.leaf ⟨.normal, [.ptr 0 (.c 0), .ptr 2 (.c 0), .ptr 3 (.c 0)], [scB g (slA 1 len), outA len k s b n, scB ga nilO, scB ga nilO]⟩)) .fail) .fail)) := by kernel_rfl
theorem lf_p5_101 (g : SetD) (len : Nat) (k s : Nat → Int) (b : Nat → ByteArray) (n : Nat → Int) (c : Nat) (f : Nat → Int) (ga : SetD) (La : List OpD) (ea : Int) (j : Nat → Value) : (evalS E7 S7 1000 (seqL (postC 4 lfC)) (mkA 73 ([1, 2, 5, 6, 7, 8].zip [nilO, .ptr 0 (.c 0), .ptr 1 (.c 0), .sl 2 (.c 0) ⟨false, c⟩ 1, .ptr 5 (.c 0), .int .i64 false ea]) j) (mkH [scB g (slA 4 len), scB g (slA 3 len), cpI c f, outA len k s b n, opsO len k s b n, scB ga (slA 6 La.length), outL La])).mapO (viewD 73 (vselD ⟨[1, 2, 5, 6, 7, 8, 9, 10], [.of 2, .of 5, .of 6, .fld 5 11, .fld 2 11, .of 7, .opt 7 11, .of 9, .opt 9 11]⟩ ⟨[4], []⟩ ⟨[], []⟩)) =
    .node ((Nat.div 0 4 + len).ble len) (.node (len.ble 70368744177664) (.node (frG (checkQ r9V oneV) g (opsL len k s b n)) (.node (fragR (checkQ r9V oneV) g (opsL len k s b n) []).2.1.isEmpty (.leaf ⟨.normal, [nilO, .ptr 0 (.c 0), .ptr 1 (.c 0), .sl 2 (.c 0) ⟨false, c⟩ 1, .ptr 5 (.c 0), .int .i64 false ea, .ptr 7 (.c 0), .int .i64 false (fragR (checkQ r9V oneV) g (opsL len k s b n) []).2.2], [scB g (slA 4 len), scB g (slA 3 len), cpI c f, outA len k s b n, opsO len k s b n, scB ga (slA 6 La.length), outL La, scB (fragR (checkQ r9V oneV) g (opsL len k s b n) []).1 nilO]⟩) (.leaf ⟨.normal, [nilO, .ptr 0 (.c 0), .ptr 1 (.c 0), .sl 2 (.c 0) ⟨false, c⟩ 1, .ptr 5 (.c 0), .int .i64 false ea, .ptr 7 (.c 0), .int .i64 false (fragR (checkQ r9V oneV) g (opsL len k s b n) []).2.2], [scB g (slA 4 len), scB g (slA 3 len), cpI c f, outA len k s b n, opsO len k s b n, scB ga (slA 6 La.length), outL La, scB (fragR (checkQ r9V oneV) g (opsL len k s b n) []).1 (slA 8 (fragR (checkQ r9V oneV) g (opsL len k s b n) []).2.1.length), outL (fragR (checkQ r9V oneV) g (opsL len k s b n) []).2.1]⟩)) .fail) .fail) .fail := by kernel_rfl
theorem lf_p6_101 (g : SetD) (len : Nat) (k s : Nat → Int) (b : Nat → ByteArray) (n : Nat → Int) (c : Nat) (f : Nat → Int) (ga : SetD) (La : List OpD) (ea : Int) (j : Nat → Value) : (evalS E7 S7 1000 (seqL (postC 5 lfC)) (mkA 73 ([1, 2, 5, 6, 7, 8, 9, 10].zip [nilO, .ptr 0 (.c 0), .ptr 1 (.c 0), .sl 2 (.c 0) ⟨false, c⟩ 1, .ptr 5 (.c 0), .int .i64 false ea, .ptr 7 (.c 0), .int .i64 false ea]) j) (mkH [scB g (slA 4 len), scB g (slA 3 len), cpI c f, outA len k s b n, opsO len k s b n, scB ga (slA 6 La.length), outL La, scB ga (slA 8 La.length), outL La])).mapO (viewD 73 (vselD ⟨[5, 7, 9], [.of 5, .fld 5 11, .of 7, .opt 7 11, .of 9, .opt 9 11]⟩ ⟨[4], []⟩ ⟨[], []⟩)) =
    .node ((Nat.div 0 4 + La.length).ble La.length) (.node (La.length.ble 70368744177664) (.node ((Nat.div 0 4 + La.length).ble La.length) (.node (La.length.ble 70368744177664) (.node (!(sameS ga (opsL La.length (fk La) (fs La) (fb La) (fn La)) ga (opsL La.length (fk La) (fs La) (fb La) (fn La)))) (.leaf rFalse) (.node (ea != ea) (.leaf rFalse) (.node ((Nat.div 0 1 + c).ble c) (.node (c.ble 70368744177664) (.node (!(sameI (intL c f) [])) (.leaf rFalse) (.leaf ⟨.normal, [.ptr 0 (.c 0), .ptr 2 (.c 0), .ptr 4 (.c 0)], [scB g (slA 1 len), outA len k s b n, scB ga (slA 3 La.length), outL La, scB ga (slA 5 La.length), outL La]⟩)) .fail) .fail))) .fail) .fail) .fail) .fail := by kernel_rfl
theorem lf_h11 (g : SetD) (len : Nat) (k s : Nat → Int) (b : Nat → ByteArray) (n : Nat → Int) (c : Nat) (f : Nat → Int) (j : Nat → Value) : (evalS E7 S7 1000 (preC 3 lfC) (mkA 73 (argL [scrS g (slO len), slI 1 c]) j) (mkH [opsO len k s b n, intsO c f])).mapO (viewD 73 (vselD ⟨[1, 2, 5, 6], [.of 2, .of 5, .of 6, .fld 5 11, .fld 2 11, .of 1]⟩ ⟨[4], []⟩ ⟨[], []⟩)) =
    .node ((Nat.div 0 4 + len).ble len) (.node (len.ble 70368744177664) (.node (longQ (opsL len k s b n)) (.leaf rTrue) (.node (decide ((c : Int) > 40)) (.leaf rTrue) (.node ((Nat.div 0 4 + len).ble len) (.node (len.beq 0) (.node ((Nat.div 0 1 + c).ble c) (.node (c.beq 0) (.leaf ⟨.normal, [slI 5 c, .ptr 0 (.c 0), .ptr 1 (.c 0), .sl 2 (.c 0) ⟨true, 0⟩ 1], [scB g (slA 4 len), scB g (.sl 3 (.c 0) ⟨true, 0⟩ 4), .cells [] true, .cells [] true, opsO len k s b n, intsO c f]⟩) (.node ((0 + c).ble 70368744177664 && capRoom (0 + c) 8) (.leaf ⟨.normal, [slI 5 c, .ptr 0 (.c 0), .ptr 1 (.c 0), .sl 2 (.c 0) ⟨false, 0 + c⟩ 1], [scB g (slA 4 len), scB g (.sl 3 (.c 0) ⟨true, 0⟩ 4), cpI c f, .cells [] true, opsO len k s b n, intsO c f]⟩) .fail)) .fail) (.node ((0 + len).ble 70368744177664 && capRoom (0 + len) 40) (.node ((Nat.div 0 1 + c).ble c) (.node (c.beq 0) (.leaf ⟨.normal, [slI 5 c, .ptr 0 (.c 0), .ptr 1 (.c 0), .sl 2 (.c 0) ⟨true, 0⟩ 1], [scB g (slA 4 len), scB g (.sl 3 (.c 0) ⟨false, 0 + len⟩ 4), .cells [] true, outA len k s b n, opsO len k s b n, intsO c f]⟩) (.node ((0 + c).ble 70368744177664 && capRoom (0 + c) 8) (.leaf ⟨.normal, [slI 5 c, .ptr 0 (.c 0), .ptr 1 (.c 0), .sl 2 (.c 0) ⟨false, 0 + c⟩ 1], [scB g (slA 4 len), scB g (.sl 3 (.c 0) ⟨false, 0 + len⟩ 4), cpI c f, outA len k s b n, opsO len k s b n, intsO c f]⟩) .fail)) .fail) .fail)) .fail))) .fail) .fail := by kernel_rfl
theorem lf_p4_11 (g : SetD) (len : Nat) (k s : Nat → Int) (b : Nat → ByteArray) (n : Nat → Int) (c : Nat) (f : Nat → Int) (j : Nat → Value) : (evalS E7 S7 1000 (seqL (postC 3 lfC)) (mkA 73 ([1, 2, 5, 6].zip [slI 5 c, .ptr 0 (.c 0), .ptr 1 (.c 0), .sl 2 (.c 0) ⟨false, c⟩ 1]) j) (mkH [scB g (slA 4 len), scB g (slA 3 len), cpI c f, outA len k s b n, opsO len k s b n, intsO c f])).mapO (viewD 73 (vselD ⟨[1, 2, 5, 6, 7, 8], [.of 2, .of 5, .of 6, .fld 5 11, .fld 2 11, .of 1, .of 7, .opt 7 11]⟩ ⟨[4], []⟩ ⟨[], []⟩)) =
    .node ((Nat.div 0 4 + len).ble len) (.node (len.ble 70368744177664) (.node ((Nat.div 0 1 + c).ble c) (.node (c.ble 70368744177664) (.node (frG (checkR csV opV) g (opsL len k s b n)) (.node (fragR (checkR csV opV) g (opsL len k s b n) (intL c f)).2.1.isEmpty
      (.leaf ⟨.normal, [slI 5 c, .ptr 0 (.c 0), .ptr 1 (.c 0), .sl 2 (.c 0) ⟨false, c⟩ 1, .ptr 6 (.c 0), .int .i64 false (fragR (checkR csV opV) g (opsL len k s b n) (intL c f)).2.2], [scB g (slA 4 len), scB g (slA 3 len), cpI c f, outA len k s b n, opsO len k s b n, intsO c f, scB (fragR (checkR csV opV) g (opsL len k s b n) (intL c f)).1 nilO]⟩)
      (.leaf ⟨.normal, [slI 5 c, .ptr 0 (.c 0), .ptr 1 (.c 0), .sl 2 (.c 0) ⟨false, c⟩ 1, .ptr 6 (.c 0), .int .i64 false (fragR (checkR csV opV) g (opsL len k s b n) (intL c f)).2.2], [scB g (slA 4 len), scB g (slA 3 len), cpI c f, outA len k s b n, opsO len k s b n, intsO c f, scB (fragR (checkR csV opV) g (opsL len k s b n) (intL c f)).1 (slA 7 (fragR (checkR csV opV) g (opsL len k s b n) (intL c f)).2.1.length), outL (fragR (checkR csV opV) g (opsL len k s b n) (intL c f)).2.1]⟩)) .fail) .fail) .fail) .fail) .fail := by kernel_rfl
theorem lf_p5_110 (g : SetD) (len : Nat) (k s : Nat → Int) (b : Nat → ByteArray) (n : Nat → Int) (c : Nat) (f : Nat → Int) (ga : SetD) (ea : Int) (j : Nat → Value) : (evalS E7 S7 1000 (seqL (postC 4 lfC)) (mkA 73 ([1, 2, 5, 6, 7, 8].zip [slI 5 c, .ptr 0 (.c 0), .ptr 1 (.c 0), .sl 2 (.c 0) ⟨false, c⟩ 1, .ptr 6 (.c 0), .int .i64 false ea]) j) (mkH [scB g (slA 4 len), scB g (slA 3 len), cpI c f, outA len k s b n, opsO len k s b n, intsO c f, scB ga nilO])).mapO (viewD 73 (vselD ⟨[1, 2, 5, 6, 7, 8, 9, 10], [.of 2, .of 5, .of 6, .fld 5 11, .fld 2 11, .of 1, .of 7, .opt 7 11, .of 9, .opt 9 11]⟩ ⟨[4], []⟩ ⟨[], []⟩)) =
    .node ((Nat.div 0 4 + len).ble len) (.node (len.ble 70368744177664) (.node ((Nat.div 0 1 + c).ble c) (.node (c.ble 70368744177664) (.node (frG (checkQ r9V oneV) g (opsL len k s b n)) (.node (fragR (checkQ r9V oneV) g (opsL len k s b n) (intL c f)).2.1.isEmpty (.leaf ⟨.normal, [slI 5 c, .ptr 0 (.c 0), .ptr 1 (.c 0), .sl 2 (.c 0) ⟨false, c⟩ 1, .ptr 6 (.c 0), .int .i64 false ea, .ptr 7 (.c 0), .int .i64 false (fragR (checkQ r9V oneV) g (opsL len k s b n) (intL c f)).2.2], [scB g (slA 4 len), scB g (slA 3 len), cpI c f, outA len k s b n, opsO len k s b n, intsO c f, scB ga nilO, scB (fragR (checkQ r9V oneV) g (opsL len k s b n) (intL c f)).1 nilO]⟩) (.leaf ⟨.normal, [slI 5 c, .ptr 0 (.c 0), .ptr 1 (.c 0), .sl 2 (.c 0) ⟨false, c⟩ 1, .ptr 6 (.c 0), .int .i64 false ea, .ptr 7 (.c 0), .int .i64 false (fragR (checkQ r9V oneV) g (opsL len k s b n) (intL c f)).2.2], [scB g (slA 4 len), scB g (slA 3 len), cpI c f, outA len k s b n, opsO len k s b n, intsO c f, scB ga nilO, scB (fragR (checkQ r9V oneV) g (opsL len k s b n) (intL c f)).1 (slA 8 (fragR (checkQ r9V oneV) g (opsL len k s b n) (intL c f)).2.1.length), outL (fragR (checkQ r9V oneV) g (opsL len k s b n) (intL c f)).2.1]⟩)) .fail) .fail) .fail) .fail) .fail := by kernel_rfl
theorem lf_p6_110 (g : SetD) (len : Nat) (k s : Nat → Int) (b : Nat → ByteArray) (n : Nat → Int) (c : Nat) (f : Nat → Int) (ga : SetD) (ea : Int) (j : Nat → Value) : (evalS E7 S7 1000 (seqL (postC 5 lfC)) (mkA 73 ([1, 2, 5, 6, 7, 8, 9, 10].zip [slI 5 c, .ptr 0 (.c 0), .ptr 1 (.c 0), .sl 2 (.c 0) ⟨false, c⟩ 1, .ptr 6 (.c 0), .int .i64 false ea, .ptr 7 (.c 0), .int .i64 false ea]) j) (mkH [scB g (slA 4 len), scB g (slA 3 len), cpI c f, outA len k s b n, opsO len k s b n, intsO c f, scB ga nilO, scB ga nilO])).mapO (viewD 73 (vselD ⟨[5, 7, 9], [.of 5, .fld 5 11, .of 7, .opt 7 11, .of 9, .opt 9 11]⟩ ⟨[4], []⟩ ⟨[], []⟩)) =
    .node (!(sameS ga [] ga [])) (.leaf rFalse) (.node (ea != ea) (.leaf rFalse) (.node ((Nat.div 0 1 + c).ble c) (.node (c.ble 70368744177664) (.node ((Nat.div 0 1 + c).ble c) (.node (c.ble 70368744177664) (.node (!(sameI (intL c f) (intL c f))) (.leaf rFalse) (.leaf ⟨.normal, [.ptr 0 (.c 0), .ptr 2 (.c 0), .ptr 3 (.c 0)], [scB g (slA 1 len), outA len k s b n, scB ga nilO, scB ga nilO]⟩)) .fail) .fail) .fail) .fail)) := by kernel_rfl
theorem lf_p5_111 (g : SetD) (len : Nat) (k s : Nat → Int) (b : Nat → ByteArray) (n : Nat → Int) (c : Nat) (f : Nat → Int) (ga : SetD) (La : List OpD) (ea : Int) (j : Nat → Value) : (evalS E7 S7 1000 (seqL (postC 4 lfC)) (mkA 73 ([1, 2, 5, 6, 7, 8].zip [slI 5 c, .ptr 0 (.c 0), .ptr 1 (.c 0), .sl 2 (.c 0) ⟨false, c⟩ 1, .ptr 6 (.c 0), .int .i64 false ea]) j) (mkH [scB g (slA 4 len), scB g (slA 3 len), cpI c f, outA len k s b n, opsO len k s b n, intsO c f, scB ga (slA 7 La.length), outL La])).mapO (viewD 73 (vselD ⟨[1, 2, 5, 6, 7, 8, 9, 10], [.of 2, .of 5, .of 6, .fld 5 11, .fld 2 11, .of 1, .of 7, .opt 7 11, .of 9, .opt 9 11]⟩ ⟨[4], []⟩ ⟨[], []⟩)) =
    .node ((Nat.div 0 4 + len).ble len) (.node (len.ble 70368744177664) (.node ((Nat.div 0 1 + c).ble c) (.node (c.ble 70368744177664) (.node (frG (checkQ r9V oneV) g (opsL len k s b n)) (.node (fragR (checkQ r9V oneV) g (opsL len k s b n) (intL c f)).2.1.isEmpty (.leaf ⟨.normal, [slI 5 c, .ptr 0 (.c 0), .ptr 1 (.c 0), .sl 2 (.c 0) ⟨false, c⟩ 1, .ptr 6 (.c 0), .int .i64 false ea, .ptr 8 (.c 0), .int .i64 false (fragR (checkQ r9V oneV) g (opsL len k s b n) (intL c f)).2.2], [scB g (slA 4 len), scB g (slA 3 len), cpI c f, outA len k s b n, opsO len k s b n, intsO c f, scB ga (slA 7 La.length), outL La, scB (fragR (checkQ r9V oneV) g (opsL len k s b n) (intL c f)).1 nilO]⟩) (.leaf ⟨.normal, [slI 5 c, .ptr 0 (.c 0), .ptr 1 (.c 0), .sl 2 (.c 0) ⟨false, c⟩ 1, .ptr 6 (.c 0), .int .i64 false ea, .ptr 8 (.c 0), .int .i64 false (fragR (checkQ r9V oneV) g (opsL len k s b n) (intL c f)).2.2], [scB g (slA 4 len), scB g (slA 3 len), cpI c f, outA len k s b n, opsO len k s b n, intsO c f, scB ga (slA 7 La.length), outL La, scB (fragR (checkQ r9V oneV) g (opsL len k s b n) (intL c f)).1 (slA 9 (fragR (checkQ r9V oneV) g (opsL len k s b n) (intL c f)).2.1.length), outL (fragR (checkQ r9V oneV) g (opsL len k s b n) (intL c f)).2.1]⟩)) .fail) .fail) .fail) .fail) .fail := by kernel_rfl
theorem lf_p6_111 (g : SetD) (len : Nat) (k s : Nat → Int) (b : Nat → ByteArray) (n : Nat → Int) (c : Nat) (f : Nat → Int) (ga : SetD) (La : List OpD) (ea : Int) (j : Nat → Value) : (evalS E7 S7 1000 (seqL (postC 5 lfC)) (mkA 73 ([1, 2, 5, 6, 7, 8, 9, 10].zip [slI 5 c, .ptr 0 (.c 0), .ptr 1 (.c 0), .sl 2 (.c 0) ⟨false, c⟩ 1, .ptr 6 (.c 0), .int .i64 false ea, .ptr 8 (.c 0), .int .i64 false ea]) j) (mkH [scB g (slA 4 len), scB g (slA 3 len), cpI c f, outA len k s b n, opsO len k s b n, intsO c f, scB ga (slA 7 La.length), outL La, scB ga (slA 9 La.length), outL La])).mapO (viewD 73 (vselD ⟨[5, 7, 9], [.of 5, .fld 5 11, .of 7, .opt 7 11, .of 9, .opt 9 11]⟩ ⟨[4], []⟩ ⟨[], []⟩)) =
    .node ((Nat.div 0 4 + La.length).ble La.length) (.node (La.length.ble 70368744177664) (.node ((Nat.div 0 4 + La.length).ble La.length) (.node (La.length.ble 70368744177664) (.node (!(sameS ga (opsL La.length (fk La) (fs La) (fb La) (fn La)) ga (opsL La.length (fk La) (fs La) (fb La) (fn La)))) (.leaf rFalse) (.node (ea != ea) (.leaf rFalse) (.node ((Nat.div 0 1 + c).ble c) (.node (c.ble 70368744177664) (.node ((Nat.div 0 1 + c).ble c) (.node (c.ble 70368744177664) (.node (!(sameI (intL c f) (intL c f))) (.leaf rFalse) (.leaf ⟨.normal, [.ptr 0 (.c 0), .ptr 2 (.c 0), .ptr 4 (.c 0)], [scB g (slA 1 len), outA len k s b n, scB ga (slA 3 La.length), outL La, scB ga (slA 5 La.length), outL La]⟩)) .fail) .fail) .fail) .fail))) .fail) .fail) .fail) .fail := by kernel_rfl
theorem lf_r8_0 (g : SetD) (len : Nat) (k s : Nat → Int) (b : Nat → ByteArray) (n : Nat → Int) (ga : SetD) (j : Nat → Value) : (evalS E7 S7 1000 (seqL (seqL (postC 6 lfC))) (mkA 73 ([5, 7, 9].zip [.ptr 0 (.c 0), .ptr 2 (.c 0), .ptr 3 (.c 0)]) j) (mkH [scB g (slA 1 len), outA len k s b n, scB ga nilO, scB ga nilO])).mapO (viewD 73 (vselD ⟨[5, 7, 9, 11], [.of 5, .fld 5 11, .of 7, .opt 7 11, .of 9, .opt 9 11]⟩ ⟨[4], []⟩ ⟨[], []⟩)) =
    .leaf ⟨.normal, [.ptr 0 (.c 0), .ptr 2 (.c 0), .ptr 3 (.c 0), .int .i64 true 0], [scB g (slA 1 len), outA len k s b n, scB ga nilO, scB ga nilO]⟩ := by kernel_rfl
theorem lf_bd_0 (g : SetD) (len : Nat) (k s : Nat → Int) (b : Nat → ByteArray) (n : Nat → Int) (ga : SetD) (i : Nat) (j : Nat → Value) : (evalS E7 S7 1000 (loopB (blockB (seqR (seqL (postC 6 lfC))))) (mkA 73 ([5, 7, 9, 11].zip [.ptr 0 (.c 0), .ptr 2 (.c 0), .ptr 3 (.c 0), .int .i64 false (i : Int)]) j) (mkH [scB g (slA 1 len), outA len k s b n, scB ga nilO, scB ga nilO])).mapO (viewD 73 (vselD ⟨[5, 7, 9, 11], [.of 5, .fld 5 11, .of 7, .opt 7 11, .of 9, .opt 9 11]⟩ ⟨[4], []⟩ ⟨[7, 9], [.of 7, .opt 7 11, .of 9, .opt 9 11]⟩)) =
    .node (decide ((i : Int) < (len : Int))) (.node (decide ((0 : Int) ≤ (i : Int)) && (i : Int).toNat.blt len) (.node (i.blt len) (.node (decide ((0 : Int) ≤ (i : Int)) && (i : Int).toNat.blt len) (.node (i.blt len)
      (.leaf ⟨.normal, [.ptr 0 (.c 0), .ptr 2 (.c 0), .ptr 3 (.c 0), .int .i64 false (IntKind.i64.wrap ((i : Int) + 1))], [scB g (slA 1 len), outA len k s b (fun x => bif Nat.beq x (i : Int).toNat then IntKind.i64.wrap (n (i : Int).toNat + 1) else n x), scB ga nilO, scB ga nilO]⟩) .fail) .fail) .fail) .fail)
      (.leaf ⟨.exit 0, [.ptr 0 (.c 0), .ptr 1 (.c 0)], [scB ga nilO, scB ga nilO]⟩) := by kernel_rfl
theorem lf_fn_0 (ga : SetD) (j : Nat → Value) : (evalS E7 S7 1000 (seqR (postC 6 lfC)) (mkA 73 ([7, 9].zip [.ptr 0 (.c 0), .ptr 1 (.c 0)]) j) (mkH [scB ga nilO, scB ga nilO])).mapO (viewD 73 (vselD ⟨[], []⟩ ⟨[4], []⟩ ⟨[], []⟩)) =
    .node (sameS ga [] ga []) (.leaf rTrue) (.leaf rFalse) := by kernel_rfl
/-- Behind the comparisons. -/
theorem lf_tail0 (g : SetD) (len : Nat) (k s : Nat → Int) (b : Nat → ByteArray) (n : Nat → Int) (ga : SetD) {ρ0 : Emb} {w : World} (hro : ∀ i g, ρ0 i = .img g → g.rw = false) (hlen : len ≤ 70368744177664) (b1 : Act) (w1 : World)
    (st : StL ρ0 w 73 ([5, 7, 9].zip [.ptr 0 (.c 0), .ptr 2 (.c 0), .ptr 3 (.c 0)]) [scB g (slA 1 len), outA len k s b n, scB ga nilO, scB ga nilO] b1 w1) : (postC 6 lfC).wp E7.P (bodyPostD E7.P lfF (fun e w' => e = .returned (.bool true) ∧ Below w.heap.size w w')) b1 w1 := by
  refine wp_seqP (by kernel_rfl) ?_
  refine wp_seqP (by kernel_rfl) ?_
  refine StL.pieceD sound7 thom7 1000 (by decide) (by kernel_rfl) (lf_r8_0 g len k s b n ga) st ?_
  refine Holds.leaf ⟨rfl, fun b2 w2 st => ?_⟩
  show Code.wp E7.P (seqR (seqL (postC 6 lfC))) _ b2 w2
  refine wp_blockP (by kernel_rfl) ?_
  refine wp_loopP (by kernel_rfl) (fun M y w' => ∃ (i : Nat) (n : Nat → Int), M = len - i ∧ i ≤ len ∧ StL ρ0 w 73 ([5, 7, 9, 11].zip [.ptr 0 (.c 0), .ptr 2 (.c 0), .ptr 3 (.c 0), .int .i64 false (i : Int)]) [scB g (slA 1 len), outA len k s b n, scB ga nilO, scB ga nilO] y w') ?_ ⟨0, n, rfl, Nat.zero_le _, st.conv rfl rfl⟩
  rintro _ b3 w3 ⟨i, n, rfl, hi, st⟩
  refine StL.pieceD sound7 thom7 1000 (by decide) (by kernel_rfl) (lf_bd_0 g len k s b n ga i) st ?_
  refine Holds.node (fun h2 => ?_) fun h2 => ?_
  · have hlt : i < len := by simpa using h2
    have hblt : i.blt len = true := blt_true hlt
    refine Holds.yesB (by simp [hblt]) (Holds.yesB hblt (Holds.yesB (by simp [hblt]) (Holds.yesB hblt ?_)))
    refine .leaf ⟨rfl, fun b4 w4 st => ⟨len - (i + 1), by omega, i + 1, _, rfl, hlt, st.conv ?_ rfl⟩⟩
    simp only [dens, SV.den, wrap_succ hlt hlen]
  · refine .leaf ⟨rfl, fun b4 w4 st => ?_⟩
    show Code.wp E7.P (seqR (postC 6 lfC)) _ b4 w4
    refine StL.pieceD sound7 thom7 1000 (by decide) (by kernel_rfl) (lf_fn_0 ga) st ?_
    refine Holds.yesB (sameS_refl _ _) ?_
    exact .leaf ⟨rfl, fun b5 w5 st => lf_end hro b5 w5 st⟩
theorem lf_r8_1 (g : SetD) (len : Nat) (k s : Nat → Int) (b : Nat → ByteArray) (n : Nat → Int) (ga : SetD) (La : List OpD) (j : Nat → Value) : (evalS E7 S7 1000 (seqL (seqL (postC 6 lfC))) (mkA 73 ([5, 7, 9].zip [.ptr 0 (.c 0), .ptr 2 (.c 0), .ptr 4 (.c 0)]) j) (mkH [scB g (slA 1 len), outA len k s b n, scB ga (slA 3 La.length), outL La, scB ga (slA 5 La.length), outL La])).mapO (viewD 73 (vselD ⟨[5, 7, 9, 11], [.of 5, .fld 5 11, .of 7, .opt 7 11, .of 9, .opt 9 11]⟩ ⟨[4], []⟩ ⟨[], []⟩)) =
    .leaf ⟨.normal, [.ptr 0 (.c 0), .ptr 2 (.c 0), .ptr 4 (.c 0), .int .i64 true 0], [scB g (slA 1 len), outA len k s b n, scB ga (slA 3 La.length), outL La, scB ga (slA 5 La.length), outL La]⟩ := by kernel_rfl
theorem lf_bd_1 (g : SetD) (len : Nat) (k s : Nat → Int) (b : Nat → ByteArray) (n : Nat → Int) (ga : SetD) (La : List OpD) (i : Nat) (j : Nat → Value) : (evalS E7 S7 1000 (loopB (blockB (seqR (seqL (postC 6 lfC))))) (mkA 73 ([5, 7, 9, 11].zip [.ptr 0 (.c 0), .ptr 2 (.c 0), .ptr 4 (.c 0), .int .i64 false (i : Int)]) j) (mkH [scB g (slA 1 len), outA len k s b n, scB ga (slA 3 La.length), outL La, scB ga (slA 5 La.length), outL La])).mapO (viewD 73 (vselD ⟨[5, 7, 9, 11], [.of 5, .fld 5 11, .of 7, .opt 7 11, .of 9, .opt 9 11]⟩ ⟨[4], []⟩ ⟨[7, 9], [.of 7, .opt 7 11, .of 9, .opt 9 11]⟩)) =
    .node (decide ((i : Int) < (len : Int))) (.node (decide ((0 : Int) ≤ (i : Int)) && (i : Int).toNat.blt len) (.node (i.blt len) (.node (decide ((0 : Int) ≤ (i : Int)) && (i : Int).toNat.blt len) (.node (i.blt len)
      (.leaf ⟨.normal, [.ptr 0 (.c 0), .ptr 2 (.c 0), .ptr 4 (.c 0), .int .i64 false (IntKind.i64.wrap ((i : Int) + 1))], [scB g (slA 1 len), outA len k s b (fun x => bif Nat.beq x (i : Int).toNat then IntKind.i64.wrap (n (i : Int).toNat + 1) else n x), scB ga (slA 3 La.length), outL La, scB ga (slA 5 La.length), outL La]⟩) .fail) .fail) .fail) .fail)
      (.leaf ⟨.exit 0, [.ptr 0 (.c 0), .ptr 2 (.c 0)], [scB ga (slA 1 La.length), outL La, scB ga (slA 3 La.length), outL La]⟩) := by kernel_rfl
theorem lf_fn_1 (ga : SetD) (La : List OpD) (j : Nat → Value) : (evalS E7 S7 1000 (seqR (postC 6 lfC)) (mkA 73 ([7, 9].zip [.ptr 0 (.c 0), .ptr 2 (.c 0)]) j) (mkH [scB ga (slA 1 La.length), outL La, scB ga (slA 3 La.length), outL La])).mapO (viewD 73 (vselD ⟨[], []⟩ ⟨[4], []⟩ ⟨[], []⟩)) =
    .node ((Nat.div 0 4 + La.length).ble La.length) (.node (La.length.ble 70368744177664) (.node ((Nat.div 0 4 + La.length).ble La.length) (.node (La.length.ble 70368744177664) (.node (sameS ga (opsL La.length (fk La) (fs La) (fb La) (fn La)) ga (opsL La.length (fk La) (fs La) (fb La) (fn La))) (.leaf rTrue) (.leaf rFalse)) .fail) .fail) .fail) .fail := by kernel_rfl
/-- Behind the comparisons. -/
theorem lf_tail1 (g : SetD) (len : Nat) (k s : Nat → Int) (b : Nat → ByteArray) (n : Nat → Int) (ga : SetD) (La : List OpD) {ρ0 : Emb} {w : World} (hro : ∀ i g, ρ0 i = .img g → g.rw = false) (hlen : len ≤ 70368744177664) (hla : La.length ≤ 70368744177664) (b1 : Act) (w1 : World)
    (st : StL ρ0 w 73 ([5, 7, 9].zip [.ptr 0 (.c 0), .ptr 2 (.c 0), .ptr 4 (.c 0)]) [scB g (slA 1 len), outA len k s b n, scB ga (slA 3 La.length), outL La, scB ga (slA 5 La.length), outL La] b1 w1) : (postC 6 lfC).wp E7.P (bodyPostD E7.P lfF (fun e w' => e = .returned (.bool true) ∧ Below w.heap.size w w')) b1 w1 := by
  refine wp_seqP (by kernel_rfl) ?_
  refine wp_seqP (by kernel_rfl) ?_
  refine StL.pieceD sound7 thom7 1000 (by decide) (by kernel_rfl) (lf_r8_1 g len k s b n ga La) st ?_
  refine Holds.leaf ⟨rfl, fun b2 w2 st => ?_⟩
  show Code.wp E7.P (seqR (seqL (postC 6 lfC))) _ b2 w2
  refine wp_blockP (by kernel_rfl) ?_
  refine wp_loopP (by kernel_rfl) (fun M y w' => ∃ (i : Nat) (n : Nat → Int), M = len - i ∧ i ≤ len ∧ StL ρ0 w 73 ([5, 7, 9, 11].zip [.ptr 0 (.c 0), .ptr 2 (.c 0), .ptr 4 (.c 0), .int .i64 false (i : Int)]) [scB g (slA 1 len), outA len k s b n, scB ga (slA 3 La.length), outL La, scB ga (slA 5 La.length), outL La] y w') ?_ ⟨0, n, rfl, Nat.zero_le _, st.conv rfl rfl⟩
  rintro _ b3 w3 ⟨i, n, rfl, hi, st⟩
  refine StL.pieceD sound7 thom7 1000 (by decide) (by kernel_rfl) (lf_bd_1 g len k s b n ga La i) st ?_
  refine Holds.node (fun h2 => ?_) fun h2 => ?_
  · have hlt : i < len := by simpa using h2
    have hblt : i.blt len = true := blt_true hlt
    refine Holds.yesB (by simp [hblt]) (Holds.yesB hblt (Holds.yesB (by simp [hblt]) (Holds.yesB hblt ?_)))
    refine .leaf ⟨rfl, fun b4 w4 st => ⟨len - (i + 1), by omega, i + 1, _, rfl, hlt, st.conv ?_ rfl⟩⟩
    simp only [dens, SV.den, wrap_succ hlt hlen]
  · refine .leaf ⟨rfl, fun b4 w4 st => ?_⟩
    show Code.wp E7.P (seqR (postC 6 lfC)) _ b4 w4
    refine StL.pieceD sound7 thom7 1000 (by decide) (by kernel_rfl) (lf_fn_1 ga La) st ?_
    refine Holds.yesB (bleQ _) (Holds.yesB (Nat.ble_eq_true_of_le hla) (Holds.yesB (bleQ _) (Holds.yesB (Nat.ble_eq_true_of_le hla) ?_)))
    rw [opsL_get]
    refine Holds.yesB (sameS_refl _ _) ?_
    exact .leaf ⟨rfl, fun b5 w5 st => lf_end hro b5 w5 st⟩
end Go.Ev
end
section
set_option maxRecDepth 100000
set_option linter.unusedVariables false
set_option linter.unusedSimpArgs false
namespace Go.Ev
open Go.Proofs Go.RowKit
theorem fragR_len (chk : SetD → List OpD → Int) (g : SetD) (ops : List OpD) (c : List Int) : (fragR chk g ops c).2.1.length ≤ 400 := by
  unfold fragR
  split
  · exact Nat.zero_le _
  · split
    · exact Nat.zero_le _
    · split
      · exact Nat.zero_le _
      · simp only; omega
def zI : Nat → Int := fun _ => 0
def zBy : Nat → ByteArray := fun _ => ⟨#[]⟩
theorem lf_mid00 (g : SetD) (len : Nat) (k s : Nat → Int) (b : Nat → ByteArray) (n : Nat → Int) (c : Nat) (f : Nat → Int) {ρ0 : Emb} {w : World} (hro : ∀ i g, ρ0 i = .img g → g.rw = false) (hlen : len ≤ 450) (hc : c ≤ 40) (hA : frG (checkR csV opV) g (opsL len k s b n) = true) (hB : frG (checkQ r9V oneV) g [] = true)
    (heq : (fragR (checkQ r9V oneV) g [] []) = (fragR (checkR csV opV) g (opsL len k s b n) (intL c f))) (hsm : sameI (intL c f) [] = true) (b1 : Act) (w1 : World) (st : StL ρ0 w 73 ([1, 2, 5, 6].zip [nilO, .ptr 0 (.c 0), .ptr 1 (.c 0), .sl 2 (.c 0) ⟨false, c⟩ 1]) [scB g (nilO), scB g (slA 3 len), cpI c f, outA len k s b n] b1 w1) :
    (postC 3 lfC).wp E7.P (bodyPostD E7.P lfF (fun e w' => e = .returned (.bool true) ∧ Below w.heap.size w w')) b1 w1 := by
  have hl : Nat.ble len 70368744177664 = true := Nat.ble_eq_true_of_le (by omega)
  have hcc : Nat.ble c 70368744177664 = true := Nat.ble_eq_true_of_le (by omega)
  have hla := fragR_len (checkR csV opV) g (opsL len k s b n) (intL c f)
  refine wp_seqP (by kernel_rfl) ?_
  refine StL.pieceD sound7 thom7 1000 (by decide) (by kernel_rfl) (lf_p4_00 g len k s b n c f) st ?_
  refine Holds.yesB (bleQ len) (Holds.yesB hl (Holds.yesB (bleB c) (Holds.yesB hcc (Holds.yesB hA ?_))))
  refine Holds.node (fun he => ?_) fun he => ?_
  · refine .leaf ⟨rfl, fun b2 w2 st => ?_⟩
    show Code.wp E7.P (postC 4 lfC) _ b2 w2
    refine wp_seqP (by kernel_rfl) ?_
    refine StL.pieceD sound7 thom7 1000 (by decide) (by kernel_rfl) (lf_p5_000 g len k s b n c f (fragR (checkR csV opV) g (opsL len k s b n) (intL c f)).1 (fragR (checkR csV opV) g (opsL len k s b n) (intL c f)).2.2) st ?_
    rw [heq]
    refine Holds.yesB hB (Holds.yesB he ?_)
    refine .leaf ⟨rfl, fun b3 w3 st => ?_⟩
    show Code.wp E7.P (postC 5 lfC) _ b3 w3
    refine wp_seqP (by kernel_rfl) ?_
    refine StL.pieceD sound7 thom7 1000 (by decide) (by kernel_rfl) (lf_p6_000 g len k s b n c f (fragR (checkR csV opV) g (opsL len k s b n) (intL c f)).1 (fragR (checkR csV opV) g (opsL len k s b n) (intL c f)).2.2) st ?_
    refine Holds.no (by rw [sameS_refl]; rfl) (Holds.no (by simp) (Holds.yesB (bleB c) (Holds.yesB hcc (Holds.no (by rw [hsm]; rfl) ?_))))
    refine .leaf ⟨rfl, fun b4 w4 st => ?_⟩
    exact lf_tail0 g len k s b n (fragR (checkR csV opV) g (opsL len k s b n) (intL c f)).1 hro (by omega) b4 w4 st
  · refine .leaf ⟨rfl, fun b2 w2 st => ?_⟩
    show Code.wp E7.P (postC 4 lfC) _ b2 w2
    refine wp_seqP (by kernel_rfl) ?_
    refine StL.pieceD sound7 thom7 1000 (by decide) (by kernel_rfl) (lf_p5_001 g len k s b n c f (fragR (checkR csV opV) g (opsL len k s b n) (intL c f)).1 (fragR (checkR csV opV) g (opsL len k s b n) (intL c f)).2.1 (fragR (checkR csV opV) g (opsL len k s b n) (intL c f)).2.2) st ?_
    rw [heq]
    refine Holds.yesB hB (Holds.no he ?_)
    refine .leaf ⟨rfl, fun b3 w3 st => ?_⟩
    show Code.wp E7.P (postC 5 lfC) _ b3 w3
    refine wp_seqP (by kernel_rfl) ?_
    refine StL.pieceD sound7 thom7 1000 (by decide) (by kernel_rfl) (lf_p6_001 g len k s b n c f (fragR (checkR csV opV) g (opsL len k s b n) (intL c f)).1 (fragR (checkR csV opV) g (opsL len k s b n) (intL c f)).2.1 (fragR (checkR csV opV) g (opsL len k s b n) (intL c f)).2.2) st ?_
    have hll : Nat.ble (fragR (checkR csV opV) g (opsL len k s b n) (intL c f)).2.1.length 70368744177664 = true := Nat.ble_eq_true_of_le (by omega)
    refine Holds.yesB (bleQ _) (Holds.yesB hll (Holds.yesB (bleQ _) (Holds.yesB hll (Holds.no (by rw [sameS_refl]; rfl) (Holds.no (by simp) (Holds.yesB (bleB c) (Holds.yesB hcc (Holds.no (by rw [hsm]; rfl) ?_))))))))
    refine .leaf ⟨rfl, fun b4 w4 st => ?_⟩
    exact lf_tail1 g len k s b n (fragR (checkR csV opV) g (opsL len k s b n) (intL c f)).1 (fragR (checkR csV opV) g (opsL len k s b n) (intL c f)).2.1 hro (by omega) (by omega) b4 w4 st
theorem lf_mid01 (g : SetD) (len : Nat) (k s : Nat → Int) (b : Nat → ByteArray) (n : Nat → Int) (c : Nat) (f : Nat → Int) {ρ0 : Emb} {w : World} (hro : ∀ i g, ρ0 i = .img g → g.rw = false) (hlen : len ≤ 450) (hc : c ≤ 40) (hA : frG (checkR csV opV) g (opsL len k s b n) = true) (hB : frG (checkQ r9V oneV) g [] = true)
    (heq : (fragR (checkQ r9V oneV) g [] (intL c f)) = (fragR (checkR csV opV) g (opsL len k s b n) (intL c f))) (hsm : sameI (intL c f) (intL c f) = true) (b1 : Act) (w1 : World) (st : StL ρ0 w 73 ([1, 2, 5, 6].zip [slI 4 c, .ptr 0 (.c 0), .ptr 1 (.c 0), .sl 2 (.c 0) ⟨false, c⟩ 1]) [scB g (nilO), scB g (slA 3 len), cpI c f, outA len k s b n, intsO c f] b1 w1) :
    (postC 3 lfC).wp E7.P (bodyPostD E7.P lfF (fun e w' => e = .returned (.bool true) ∧ Below w.heap.size w w')) b1 w1 := by
  have hl : Nat.ble len 70368744177664 = true := Nat.ble_eq_true_of_le (by omega)
  have hcc : Nat.ble c 70368744177664 = true := Nat.ble_eq_true_of_le (by omega)
  have hla := fragR_len (checkR csV opV) g (opsL len k s b n) (intL c f)
  refine wp_seqP (by kernel_rfl) ?_
  refine StL.pieceD sound7 thom7 1000 (by decide) (by kernel_rfl) (lf_p4_01 g len k s b n c f) st ?_
  refine Holds.yesB (bleQ len) (Holds.yesB hl (Holds.yesB (bleB c) (Holds.yesB hcc (Holds.yesB hA ?_))))
  refine Holds.node (fun he => ?_) fun he => ?_
  · refine .leaf ⟨rfl, fun b2 w2 st => ?_⟩
    show Code.wp E7.P (postC 4 lfC) _ b2 w2
    refine wp_seqP (by kernel_rfl) ?_
    refine StL.pieceD sound7 thom7 1000 (by decide) (by kernel_rfl) (lf_p5_010 g len k s b n c f (fragR (checkR csV opV) g (opsL len k s b n) (intL c f)).1 (fragR (checkR csV opV) g (opsL len k s b n) (intL c f)).2.2) st ?_
    rw [heq]
    refine Holds.yesB (bleB c) (Holds.yesB hcc (Holds.yesB hB (Holds.yesB he ?_)))
    refine .leaf ⟨rfl, fun b3 w3 st => ?_⟩
    show Code.wp E7.P (postC 5 lfC) _ b3 w3
    refine wp_seqP (by kernel_rfl) ?_
    refine StL.pieceD sound7 thom7 1000 (by decide) (by kernel_rfl) (lf_p6_010 g len k s b n c f (fragR (checkR csV opV) g (opsL len k s b n) (intL c f)).1 (fragR (checkR csV opV) g (opsL len k s b n) (intL c f)).2.2) st ?_
    refine Holds.no (by rw [sameS_refl]; rfl) (Holds.no (by simp) (Holds.yesB (bleB c) (Holds.yesB hcc (Holds.yesB (bleB c) (Holds.yesB hcc (Holds.no (by rw [hsm]; rfl) ?_))))))
    refine .leaf ⟨rfl, fun b4 w4 st => ?_⟩
    exact lf_tail0 g len k s b n (fragR (checkR csV opV) g (opsL len k s b n) (intL c f)).1 hro (by omega) b4 w4 st
  · refine .leaf ⟨rfl, fun b2 w2 st => ?_⟩
    show Code.wp E7.P (postC 4 lfC) _ b2 w2
    refine wp_seqP (by kernel_rfl) ?_
    refine StL.pieceD sound7 thom7 1000 (by decide) (by kernel_rfl) (lf_p5_011 g len k s b n c f (fragR (checkR csV opV) g (opsL len k s b n) (intL c f)).1 (fragR (checkR csV opV) g (opsL len k s b n) (intL c f)).2.1 (fragR (checkR csV opV) g (opsL len k s b n) (intL c f)).2.2) st ?_
    rw [heq]
    refine Holds.yesB (bleB c) (Holds.yesB hcc (Holds.yesB hB (Holds.no he ?_)))
    refine .leaf ⟨rfl, fun b3 w3 st => ?_⟩
    show Code.wp E7.P (postC 5 lfC) _ b3 w3
    refine wp_seqP (by kernel_rfl) ?_
    refine StL.pieceD sound7 thom7 1000 (by decide) (by kernel_rfl) (lf_p6_011 g len k s b n c f (fragR (checkR csV opV) g (opsL len k s b n) (intL c f)).1 (fragR (checkR csV opV) g (opsL len k s b n) (intL c f)).2.1 (fragR (checkR csV opV) g (opsL len k s b n) (intL c f)).2.2) st ?_
    have hll : Nat.ble (fragR (checkR csV opV) g (opsL len k s b n) (intL c f)).2.1.length 70368744177664 = true := Nat.ble_eq_true_of_le (by omega)
    refine Holds.yesB (bleQ _) (Holds.yesB hll (Holds.yesB (bleQ _) (Holds.yesB hll (Holds.no (by rw [sameS_refl]; rfl) (Holds.no (by simp) (Holds.yesB (bleB c) (Holds.yesB hcc (Holds.yesB (bleB c) (Holds.yesB hcc (Holds.no (by rw [hsm]; rfl) ?_))))))))))
    refine .leaf ⟨rfl, fun b4 w4 st => ?_⟩
    exact lf_tail1 g len k s b n (fragR (checkR csV opV) g (opsL len k s b n) (intL c f)).1 (fragR (checkR csV opV) g (opsL len k s b n) (intL c f)).2.1 hro (by omega) (by omega) b4 w4 st
theorem lf_mid10 (g : SetD) (len : Nat) (k s : Nat → Int) (b : Nat → ByteArray) (n : Nat → Int) (c : Nat) (f : Nat → Int) {ρ0 : Emb} {w : World} (hro : ∀ i g, ρ0 i = .img g → g.rw = false) (hlen : len ≤ 450) (hc : c ≤ 40) (hA : frG (checkR csV opV) g (opsL len k s b n) = true) (hB : frG (checkQ r9V oneV) g (opsL len k s b n) = true)
    (heq : (fragR (checkQ r9V oneV) g (opsL len k s b n) []) = (fragR (checkR csV opV) g (opsL len k s b n) (intL c f))) (hsm : sameI (intL c f) [] = true) (b1 : Act) (w1 : World) (st : StL ρ0 w 73 ([1, 2, 5, 6].zip [nilO, .ptr 0 (.c 0), .ptr 1 (.c 0), .sl 2 (.c 0) ⟨false, c⟩ 1]) [scB g (slA 4 len), scB g (slA 3 len), cpI c f, outA len k s b n, opsO len k s b n] b1 w1) :
    (postC 3 lfC).wp E7.P (bodyPostD E7.P lfF (fun e w' => e = .returned (.bool true) ∧ Below w.heap.size w w')) b1 w1 := by
  have hl : Nat.ble len 70368744177664 = true := Nat.ble_eq_true_of_le (by omega)
  have hcc : Nat.ble c 70368744177664 = true := Nat.ble_eq_true_of_le (by omega)
  have hla := fragR_len (checkR csV opV) g (opsL len k s b n) (intL c f)
  refine wp_seqP (by kernel_rfl) ?_
  refine StL.pieceD sound7 thom7 1000 (by decide) (by kernel_rfl) (lf_p4_10 g len k s b n c f) st ?_
  refine Holds.yesB (bleQ len) (Holds.yesB hl (Holds.yesB (bleB c) (Holds.yesB hcc (Holds.yesB hA ?_))))
  refine Holds.node (fun he => ?_) fun he => ?_
  · refine .leaf ⟨rfl, fun b2 w2 st => ?_⟩
    show Code.wp E7.P (postC 4 lfC) _ b2 w2
    refine wp_seqP (by kernel_rfl) ?_
    refine StL.pieceD sound7 thom7 1000 (by decide) (by kernel_rfl) (lf_p5_100 g len k s b n c f (fragR (checkR csV opV) g (opsL len k s b n) (intL c f)).1 (fragR (checkR csV opV) g (opsL len k s b n) (intL c f)).2.2) st ?_
    rw [heq]
    refine Holds.yesB (bleQ len) (Holds.yesB hl (Holds.yesB hB (Holds.yesB he ?_)))
    refine .leaf ⟨rfl, fun b3 w3 st => ?_⟩
    show Code.wp E7.P (postC 5 lfC) _ b3 w3
    refine wp_seqP (by kernel_rfl) ?_
    refine StL.pieceD sound7 thom7 1000 (by decide) (by kernel_rfl) (lf_p6_100 g len k s b n c f (fragR (checkR csV opV) g (opsL len k s b n) (intL c f)).1 (fragR (checkR csV opV) g (opsL len k s b n) (intL c f)).2.2) st ?_
    refine Holds.no (by rw [sameS_refl]; rfl) (Holds.no (by simp) (Holds.yesB (bleB c) (Holds.yesB hcc (Holds.no (by rw [hsm]; rfl) ?_))))
    refine .leaf ⟨rfl, fun b4 w4 st => ?_⟩
    exact lf_tail0 g len k s b n (fragR (checkR csV opV) g (opsL len k s b n) (intL c f)).1 hro (by omega) b4 w4 st
  · refine .leaf ⟨rfl, fun b2 w2 st => ?_⟩
    show Code.wp E7.P (postC 4 lfC) _ b2 w2
    refine wp_seqP (by kernel_rfl) ?_
    refine StL.pieceD sound7 thom7 1000 (by decide) (by kernel_rfl) (lf_p5_101 g len k s b n c f (fragR (checkR csV opV) g (opsL len k s b n) (intL c f)).1 (fragR (checkR csV opV) g (opsL len k s b n) (intL c f)).2.1 (fragR (checkR csV opV) g (opsL len k s b n) (intL c f)).2.2) st ?_
    rw [heq]
    refine Holds.yesB (bleQ len) (Holds.yesB hl (Holds.yesB hB (Holds.no he ?_)))
    refine .leaf ⟨rfl, fun b3 w3 st => ?_⟩
    show Code.wp E7.P (postC 5 lfC) _ b3 w3
    refine wp_seqP (by kernel_rfl) ?_
    refine StL.pieceD sound7 thom7 1000 (by decide) (by kernel_rfl) (lf_p6_101 g len k s b n c f (fragR (checkR csV opV) g (opsL len k s b n) (intL c f)).1 (fragR (checkR csV opV) g (opsL len k s b n) (intL c f)).2.1 (fragR (checkR csV opV) g (opsL len k s b n) (intL c f)).2.2) st ?_
    have hll : Nat.ble (fragR (checkR csV opV) g (opsL len k s b n) (intL c f)).2.1.length 70368744177664 = true := Nat.ble_eq_true_of_le (by omega)
    refine Holds.yesB (bleQ _) (Holds.yesB hll (Holds.yesB (bleQ _) (Holds.yesB hll (Holds.no (by rw [sameS_refl]; rfl) (Holds.no (by simp) (Holds.yesB (bleB c) (Holds.yesB hcc (Holds.no (by rw [hsm]; rfl) ?_))))))))
    refine .leaf ⟨rfl, fun b4 w4 st => ?_⟩
    exact lf_tail1 g len k s b n (fragR (checkR csV opV) g (opsL len k s b n) (intL c f)).1 (fragR (checkR csV opV) g (opsL len k s b n) (intL c f)).2.1 hro (by omega) (by omega) b4 w4 st
theorem lf_mid11 (g : SetD) (len : Nat) (k s : Nat → Int) (b : Nat → ByteArray) (n : Nat → Int) (c : Nat) (f : Nat → Int) {ρ0 : Emb} {w : World} (hro : ∀ i g, ρ0 i = .img g → g.rw = false) (hlen : len ≤ 450) (hc : c ≤ 40) (hA : frG (checkR csV opV) g (opsL len k s b n) = true) (hB : frG (checkQ r9V oneV) g (opsL len k s b n) = true)
    (heq : (fragR (checkQ r9V oneV) g (opsL len k s b n) (intL c f)) = (fragR (checkR csV opV) g (opsL len k s b n) (intL c f))) (hsm : sameI (intL c f) (intL c f) = true) (b1 : Act) (w1 : World) (st : StL ρ0 w 73 ([1, 2, 5, 6].zip [slI 5 c, .ptr 0 (.c 0), .ptr 1 (.c 0), .sl 2 (.c 0) ⟨false, c⟩ 1]) [scB g (slA 4 len), scB g (slA 3 len), cpI c f, outA len k s b n, opsO len k s b n, intsO c f] b1 w1) :
    (postC 3 lfC).wp E7.P (bodyPostD E7.P lfF (fun e w' => e = .returned (.bool true) ∧ Below w.heap.size w w')) b1 w1 := by
  have hl : Nat.ble len 70368744177664 = true := Nat.ble_eq_true_of_le (by omega)
  have hcc : Nat.ble c 70368744177664 = true := Nat.ble_eq_true_of_le (by omega)
  have hla := fragR_len (checkR csV opV) g (opsL len k s b n) (intL c f)
  refine wp_seqP (by kernel_rfl) ?_
  refine StL.pieceD sound7 thom7 1000 (by decide) (by kernel_rfl) (lf_p4_11 g len k s b n c f) st ?_
  refine Holds.yesB (bleQ len) (Holds.yesB hl (Holds.yesB (bleB c) (Holds.yesB hcc (Holds.yesB hA ?_))))
  refine Holds.node (fun he => ?_) fun he => ?_
  · refine .leaf ⟨rfl, fun b2 w2 st => ?_⟩
    show Code.wp E7.P (postC 4 lfC) _ b2 w2
    refine wp_seqP (by kernel_rfl) ?_
    refine StL.pieceD sound7 thom7 1000 (by decide) (by kernel_rfl) (lf_p5_110 g len k s b n c f (fragR (checkR csV opV) g (opsL len k s b n) (intL c f)).1 (fragR (checkR csV opV) g (opsL len k s b n) (intL c f)).2.2) st ?_
    rw [heq]
    refine Holds.yesB (bleQ len) (Holds.yesB hl (Holds.yesB (bleB c) (Holds.yesB hcc (Holds.yesB hB (Holds.yesB he ?_)))))
    refine .leaf ⟨rfl, fun b3 w3 st => ?_⟩
    show Code.wp E7.P (postC 5 lfC) _ b3 w3
    refine wp_seqP (by kernel_rfl) ?_
    refine StL.pieceD sound7 thom7 1000 (by decide) (by kernel_rfl) (lf_p6_110 g len k s b n c f (fragR (checkR csV opV) g (opsL len k s b n) (intL c f)).1 (fragR (checkR csV opV) g (opsL len k s b n) (intL c f)).2.2) st ?_
    refine Holds.no (by rw [sameS_refl]; rfl) (Holds.no (by simp) (Holds.yesB (bleB c) (Holds.yesB hcc (Holds.yesB (bleB c) (Holds.yesB hcc (Holds.no (by rw [hsm]; rfl) ?_))))))
    refine .leaf ⟨rfl, fun b4 w4 st => ?_⟩
    exact lf_tail0 g len k s b n (fragR (checkR csV opV) g (opsL len k s b n) (intL c f)).1 hro (by omega) b4 w4 st
  · refine .leaf ⟨rfl, fun b2 w2 st => ?_⟩
    show Code.wp E7.P (postC 4 lfC) _ b2 w2
    refine wp_seqP (by kernel_rfl) ?_
    refine StL.pieceD sound7 thom7 1000 (by decide) (by kernel_rfl) (lf_p5_111 g len k s b n c f (fragR (checkR csV opV) g (opsL len k s b n) (intL c f)).1 (fragR (checkR csV opV) g (opsL len k s b n) (intL c f)).2.1 (fragR (checkR csV opV) g (opsL len k s b n) (intL c f)).2.2) st ?_
    rw [heq]
    refine Holds.yesB (bleQ len) (Holds.yesB hl (Holds.yesB (bleB c) (Holds.yesB hcc (Holds.yesB hB (Holds.no he ?_)))))
    refine .leaf ⟨rfl, fun b3 w3 st => ?_⟩
    show Code.wp E7.P (postC 5 lfC) _ b3 w3
    refine wp_seqP (by kernel_rfl) ?_
    refine StL.pieceD sound7 thom7 1000 (by decide) (by kernel_rfl) (lf_p6_111 g len k s b n c f (fragR (checkR csV opV) g (opsL len k s b n) (intL c f)).1 (fragR (checkR csV opV) g (opsL len k s b n) (intL c f)).2.1 (fragR (checkR csV opV) g (opsL len k s b n) (intL c f)).2.2) st ?_
    have hll : Nat.ble (fragR (checkR csV opV) g (opsL len k s b n) (intL c f)).2.1.length 70368744177664 = true := Nat.ble_eq_true_of_le (by omega)
    refine Holds.yesB (bleQ _) (Holds.yesB hll (Holds.yesB (bleQ _) (Holds.yesB hll (Holds.no (by rw [sameS_refl]; rfl) (Holds.no (by simp) (Holds.yesB (bleB c) (Holds.yesB hcc (Holds.yesB (bleB c) (Holds.yesB hcc (Holds.no (by rw [hsm]; rfl) ?_))))))))))
    refine .leaf ⟨rfl, fun b4 w4 st => ?_⟩
    exact lf_tail1 g len k s b n (fragR (checkR csV opV) g (opsL len k s b n) (intL c f)).1 (fragR (checkR csV opV) g (opsL len k s b n) (intL c f)).2.1 hro (by omega) (by omega) b4 w4 st
theorem lf_run00 (g : SetD) {ρ0 : Emb} {w : World} {args' : Array Value} (hro : ∀ i g, ρ0 i = .img g → g.rw = false) (wr : WRel ρ0 (mkH []).den w) (ra : VsRel ρ0 (dens [scrS g nilO, nilO]) args'.toList)
    (hG : longQ [] = false → frG (checkR csV opV) g [] = true ∧ frG (checkQ r9V oneV) g [] = true ∧ checkR csV opV g [] = checkQ r9V oneV g []) :
    Calls E7.P 3 args' w fun e w' => e = .returned (.bool true) ∧ Below w.heap.size w w' := by
  refine calls_StL lfF_some lfC_some lfF_n (by decide) (by simp) wr ra fun bb st => ?_
  refine StL.preD sound7 thom7 1000 2 (by decide) lfC_plans (by kernel_rfl) (lf_h00 g) st ?_
  refine Holds.node (fun h0 => .leaf ⟨rfl, fun b1 w1 st => lf_end hro b1 w1 st⟩) fun h0 => ?_
  obtain ⟨hA, hB, hck⟩ := hG h0
  refine .leaf ⟨rfl, fun b1 w1 st => ?_⟩
  exact lf_mid00 g 0 zI zI zBy zI 0 zI hro (by omega) (by omega) hA hB (fragR_congr hck.symm []) (sameI_refl _) b1 w1 (st.conv rfl rfl)
theorem lf_run01 (g : SetD) (c : Nat) (f : Nat → Int) {ρ0 : Emb} {w : World} {args' : Array Value} (hro : ∀ i g, ρ0 i = .img g → g.rw = false) (wr : WRel ρ0 (mkH [intsO c f]).den w) (ra : VsRel ρ0 (dens [scrS g nilO, slI 0 c]) args'.toList)
    (hG : longQ [] = false → frG (checkR csV opV) g [] = true ∧ frG (checkQ r9V oneV) g [] = true ∧ checkR csV opV g [] = checkQ r9V oneV g []) :
    Calls E7.P 3 args' w fun e w' => e = .returned (.bool true) ∧ Below w.heap.size w w' := by
  refine calls_StL lfF_some lfC_some lfF_n (by decide) (by simp) wr ra fun bb st => ?_
  refine StL.preD sound7 thom7 1000 2 (by decide) lfC_plans (by kernel_rfl) (lf_h01 g c f) st ?_
  refine Holds.node (fun h0 => .leaf ⟨rfl, fun b1 w1 st => lf_end hro b1 w1 st⟩) fun h0 => ?_
  obtain ⟨hA, hB, hck⟩ := hG h0
  refine Holds.node (fun h1 => .leaf ⟨rfl, fun b1 w1 st => lf_end hro b1 w1 st⟩) fun h1 => ?_
  have hc : c ≤ 40 := by
    have : ¬ (c : Int) > 40 := by simpa using h1
    omega
  refine Holds.yesB (bleB c) (Holds.node (fun h3 => ?_) fun h3 => ?_)
  · obtain rfl : c = 0 := Nat.eq_of_beq_eq_true h3
    refine .leaf ⟨rfl, fun b1 w1 st => ?_⟩
    exact lf_mid01 g 0 zI zI zBy zI 0 f hro (by omega) (by omega) hA hB (fragR_congr hck.symm (intL 0 f)) (sameI_refl _) b1 w1 (st.conv rfl rfl)
  · refine Holds.yesB (by rw [Nat.zero_add]; exact capI (by omega)) ?_
    refine .leaf ⟨rfl, fun b1 w1 st => ?_⟩
    simp only [Nat.zero_add] at st
    exact lf_mid01 g 0 zI zI zBy zI c f hro (by omega) (by omega) hA hB (fragR_congr hck.symm (intL c f)) (sameI_refl _) b1 w1 (st.conv rfl rfl)
theorem lf_run10 (g : SetD) (len : Nat) (k s : Nat → Int) (b : Nat → ByteArray) (n : Nat → Int) {ρ0 : Emb} {w : World} {args' : Array Value} (hlen : len ≤ 70368744177664) (hro : ∀ i g, ρ0 i = .img g → g.rw = false) (wr : WRel ρ0 (mkH [opsO len k s b n]).den w) (ra : VsRel ρ0 (dens [scrS g (slO len), nilO]) args'.toList)
    (hG : longQ (opsL len k s b n) = false → frG (checkR csV opV) g (opsL len k s b n) = true ∧ frG (checkQ r9V oneV) g (opsL len k s b n) = true ∧ checkR csV opV g (opsL len k s b n) = checkQ r9V oneV g (opsL len k s b n)) :
    Calls E7.P 3 args' w fun e w' => e = .returned (.bool true) ∧ Below w.heap.size w w' := by
  refine calls_StL lfF_some lfC_some lfF_n (by decide) (by simp) wr ra fun bb st => ?_
  refine StL.preD sound7 thom7 1000 2 (by decide) lfC_plans (by kernel_rfl) (lf_h10 g len k s b n) st ?_
  refine Holds.yesB (bleQ len) (Holds.yesB (Nat.ble_eq_true_of_le hlen) ?_)
  refine Holds.node (fun h0 => .leaf ⟨rfl, fun b1 w1 st => lf_end hro b1 w1 st⟩) fun h0 => ?_
  obtain ⟨hA, hB, hck⟩ := hG h0
  have hl4 := long450 h0
  rw [opsL_length] at hl4
  refine Holds.yesB (bleQ len) (Holds.node (fun h2 => ?_) fun h2 => ?_)
  · obtain rfl : len = 0 := Nat.eq_of_beq_eq_true h2
    refine .leaf ⟨rfl, fun b1 w1 st => ?_⟩
    exact lf_mid10 g 0 k s b n 0 zI hro (by omega) (by omega) hA hB (fragR_congr hck.symm []) (sameI_refl _) b1 w1 (st.conv rfl rfl)
  · refine Holds.yesB (by rw [Nat.zero_add]; exact capO (by omega)) ?_
    refine .leaf ⟨rfl, fun b1 w1 st => ?_⟩
    simp only [Nat.zero_add] at st
    exact lf_mid10 g len k s b n 0 zI hro (by omega) (by omega) hA hB (fragR_congr hck.symm []) (sameI_refl _) b1 w1 (st.conv rfl rfl)
theorem lf_run11 (g : SetD) (len : Nat) (k s : Nat → Int) (b : Nat → ByteArray) (n : Nat → Int) (c : Nat) (f : Nat → Int) {ρ0 : Emb} {w : World} {args' : Array Value} (hlen : len ≤ 70368744177664) (hro : ∀ i g, ρ0 i = .img g → g.rw = false) (wr : WRel ρ0 (mkH [opsO len k s b n, intsO c f]).den w) (ra : VsRel ρ0 (dens [scrS g (slO len), slI 1 c]) args'.toList)
    (hG : longQ (opsL len k s b n) = false → frG (checkR csV opV) g (opsL len k s b n) = true ∧ frG (checkQ r9V oneV) g (opsL len k s b n) = true ∧ checkR csV opV g (opsL len k s b n) = checkQ r9V oneV g (opsL len k s b n)) :
    Calls E7.P 3 args' w fun e w' => e = .returned (.bool true) ∧ Below w.heap.size w w' := by
  refine calls_StL lfF_some lfC_some lfF_n (by decide) (by simp) wr ra fun bb st => ?_
  refine StL.preD sound7 thom7 1000 2 (by decide) lfC_plans (by kernel_rfl) (lf_h11 g len k s b n c f) st ?_
  refine Holds.yesB (bleQ len) (Holds.yesB (Nat.ble_eq_true_of_le hlen) ?_)
  refine Holds.node (fun h0 => .leaf ⟨rfl, fun b1 w1 st => lf_end hro b1 w1 st⟩) fun h0 => ?_
  obtain ⟨hA, hB, hck⟩ := hG h0
  have hl4 := long450 h0
  rw [opsL_length] at hl4
  refine Holds.node (fun h1 => .leaf ⟨rfl, fun b1 w1 st => lf_end hro b1 w1 st⟩) fun h1 => ?_
  have hc : c ≤ 40 := by
    have : ¬ (c : Int) > 40 := by simpa using h1
    omega
  refine Holds.yesB (bleQ len) (Holds.node (fun h2 => ?_) fun h2 => ?_)
  · obtain rfl : len = 0 := Nat.eq_of_beq_eq_true h2
    refine Holds.yesB (bleB c) (Holds.node (fun h3 => ?_) fun h3 => ?_)
    · obtain rfl : c = 0 := Nat.eq_of_beq_eq_true h3
      refine .leaf ⟨rfl, fun b1 w1 st => ?_⟩
      exact lf_mid11 g 0 k s b n 0 f hro (by omega) (by omega) hA hB (fragR_congr hck.symm (intL 0 f)) (sameI_refl _) b1 w1 (st.conv rfl rfl)
    · refine Holds.yesB (by rw [Nat.zero_add]; exact capI (by omega)) ?_
      refine .leaf ⟨rfl, fun b1 w1 st => ?_⟩
      simp only [Nat.zero_add] at st
      exact lf_mid11 g 0 k s b n c f hro (by omega) (by omega) hA hB (fragR_congr hck.symm (intL c f)) (sameI_refl _) b1 w1 (st.conv rfl rfl)
  · refine Holds.yesB (by rw [Nat.zero_add]; exact capO (by omega)) ?_
    refine Holds.yesB (bleB c) (Holds.node (fun h3 => ?_) fun h3 => ?_)
    · obtain rfl : c = 0 := Nat.eq_of_beq_eq_true h3
      refine .leaf ⟨rfl, fun b1 w1 st => ?_⟩
      simp only [Nat.zero_add] at st
      exact lf_mid11 g len k s b n 0 f hro (by omega) (by omega) hA hB (fragR_congr hck.symm (intL 0 f)) (sameI_refl _) b1 w1 (st.conv rfl rfl)
    · refine Holds.yesB (by rw [Nat.zero_add]; exact capI (by omega)) ?_
      refine .leaf ⟨rfl, fun b1 w1 st => ?_⟩
      simp only [Nat.zero_add] at st
      exact lf_mid11 g len k s b n c f hro (by omega) (by omega) hA hB (fragR_congr hck.symm (intL c f)) (sameI_refl _) b1 w1 (st.conv rfl rfl)
theorem frG_ok {chk : SetD → List OpD → Int} {g : SetD} {l : List OpD} (hb : ∀ op ∈ l, op.b.size ≤ 140737488355328) (h : longQ l = false) (h4 : chk g l = 0 → l.length ≤ 400) : frG chk g l = true := by
  unfold frG
  by_cases hc : chk g l = 0
  · have hl := h4 hc
    simp only [longQ, decide_eq_false_iff_not] at h
    have hs := sumW_eq l 0 (by omega) hb
    have hs' : sumW 0 l = (sumN l : Int) := by rw [show (0 : Int) = ((0 : Nat) : Int) from rfl, hs, Nat.zero_add]
    rw [hs'] at h
    have : sumN l ≤ 1000000000 := by omega
    simp [this, hl]
  · simp [hc]
theorem checkR_400 {cs : SetD → Int} {er : OpD → Int} {g : SetD} {l : List OpD} (h : checkR cs er g l = 0) : l.length ≤ 400 := by
  unfold checkR at h
  by_cases h0 : cs g = 0
  · rw [if_pos h0] at h
    by_cases h1 : 400 < l.length
    · rw [if_pos h1] at h; cases h
    · omega
  · rw [if_neg h0] at h; exact absurd h h0
theorem checkQ_400 {g : SetD} {l : List OpD} (h : checkQ r9V oneV g l = 0) : l.length ≤ 400 := by
  unfold checkQ at h
  by_cases h0 : r9V g = 0
  · rw [if_pos h0] at h
    by_cases h1 : 400 < l.length ∨ 65536 < sumW 0 l
    · rw [if_pos h1] at h; cases h
    · omega
  · rw [if_neg h0] at h; exact absurd h h0
theorem fragments_true {w : World} {x y : Value} {g : SetD} {l : List OpD} {cl : List Int} (hx : ScrW w x g l) (hy : (y = .slice none 0 0 ∧ cl = []) ∨ ∃ s, IntsW w y cl s) (h1 : i64In g.gx) (h2 : i64In g.gy) (h3 : i64In g.dt) (hb : ∀ op ∈ l, op.b.size ≤ 140737488355328) :
    Calls Tryz.prog 3 #[x, y] w fun e w' => e = .returned (.bool true) ∧ Below w.heap.size w w' := by
  have hG : longQ l = false → frG (checkR csV opV) g l = true ∧ frG (checkQ r9V oneV) g l = true ∧ checkR csV opV g l = checkQ r9V oneV g l := fun h =>
    ⟨frG_ok hb h checkR_400, frG_ok hb h checkQ_400, check_eq (csV_r9V h1 h2 h3) hb h⟩
  obtain ⟨o, rfl, hx⟩ := hx
  rcases hx with ⟨rfl, rfl⟩ | ⟨s, hx⟩
  · rcases hy with ⟨rfl, rfl⟩ | ⟨s', hy⟩
    · exact lf_run00 g (wEmb_ro (l := []) (fun s hs => by cases hs)) (wEmb_WRel (l := []) (O := []) rfl (by decide) (fun s hs => by cases hs) fun i s o hs => by simp at hs) (.cons _ _ _ _ nilW_rel (.cons _ _ _ _ .slNil .nil)) hG
    · have hro : ∀ s ∈ [s'], ∀ g, s = .img g → g.rw = false := fun s hs => by
        obtain rfl := List.mem_singleton.1 hs
        exact hy.ro
      exact lf_run01 g cl.length (fi cl) (wEmb_ro hro) (wEmb_WRel (O := [intsO cl.length (fi cl)]) rfl (by show 1 < most; decide) hro fun i s o hs ho => by
        match i, hs, ho with
        | 0, hs, ho => cases hs; cases ho; exact hy.at _
        | i + 1, hs, ho => simp at hs) (.cons _ _ _ _ nilW_rel (.cons _ _ _ _ (hy.rel (wEmb_at rfl)) .nil)) hG
  · rcases hy with ⟨rfl, rfl⟩ | ⟨s', hy⟩
    · have hro : ∀ s' ∈ [s], ∀ g, s' = .img g → g.rw = false := fun s hs => by
        obtain rfl := List.mem_singleton.1 hs
        exact hx.ro
      exact lf_run10 g l.length (fk l) (fs l) (fb l) (fn l) hx.len (wEmb_ro hro) (wEmb_WRel (O := [opsO l.length (fk l) (fs l) (fb l) (fn l)]) rfl (by show 1 < most; decide) hro fun i s o hs ho => by
        match i, hs, ho with
        | 0, hs, ho => cases hs; cases ho; exact hx.at _
        | i + 1, hs, ho => simp at hs) (.cons _ _ _ _ (scrW_rel (hx.rel (wEmb_at rfl))) (.cons _ _ _ _ .slNil .nil)) (by rw [opsL_get]; exact hG)
    · have hro : ∀ q ∈ [s, s'], ∀ g, q = .img g → g.rw = false := fun q hq => by
        rcases List.mem_cons.1 hq with rfl | hq
        · exact hx.ro
        · obtain rfl := List.mem_singleton.1 hq
          exact hy.ro
      exact lf_run11 g l.length (fk l) (fs l) (fb l) (fn l) cl.length (fi cl) hx.len (wEmb_ro hro) (wEmb_WRel (O := [opsO l.length (fk l) (fs l) (fb l) (fn l), intsO cl.length (fi cl)]) rfl (by show 2 < most; decide) hro fun i s o hs ho => by
        match i, hs, ho with
        | 0, hs, ho => cases hs; cases ho; exact hx.at _
        | 1, hs, ho => cases hs; cases ho; exact hy.at _
        | i + 2, hs, ho => simp at hs) (.cons _ _ _ _ (scrW_rel (hx.rel (wEmb_at rfl))) (.cons _ _ _ _ (hy.rel (wEmb_at rfl)) .nil)) (by rw [opsL_get]; exact hG)
end Go.Ev
end

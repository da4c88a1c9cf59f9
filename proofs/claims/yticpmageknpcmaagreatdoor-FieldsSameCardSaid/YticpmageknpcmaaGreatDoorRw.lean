/- A part of the proof that FieldsSame, called with any two lists of tags (the laid tables as the text lays them), returns true and leaves its arguments as they were. Here: fields.Read in the awakening, its walk. -/
import Derived.Test.YticpmageknpcmaaGreatDoorRe
set_option linter.unusedVariables false
set_option linter.unusedSimpArgs false
set_option maxRecDepth 100000
namespace Go.AM.Fld
open Go Go.AM Go.Proofs

/-! fields.Read of that recipe, on the real machine. -/
theorem good_op {c : Code} {id : Nat} {ops : Array Oper} (e : c = .region id ops false) (h : codeGood GR c = true) : ∀ o ∈ ops.toList, ∀ y ∈ o.op.operands, opndGood GR y = true := by
  intro o ho y hy
  rw [e] at h
  simp only [codeGood] at h
  have := Array.all_eq_true_iff_forall_mem.1 h o (Array.mem_toList_iff.1 ho)
  exact Array.all_eq_true_iff_forall_mem.1 this y hy
theorem gA : codeGood GR cA = true := by kernel_rfl
theorem gB : codeGood GR cB = true := by kernel_rfl
theorem gC : codeGood GR cC = true := by kernel_rfl
theorem gE : codeGood GR cE = true := by kernel_rfl
theorem gR_ : codeGood GR cR = true := by kernel_rfl
theorem gIf : codeGood GR cIf = true := by kernel_rfl
theorem gD : codeGood GR cD = true := by kernel_rfl
theorem g4 : codeGood GR cN4 = true := by kernel_rfl
theorem g5 : codeGood GR cN5 = true := by kernel_rfl
theorem clean6 : (es6.toList.all fun e => cleanV e.key && cleanV e.val) = true := by rfl
theorem old6 : ∀ x ∈ es6.toList, x.born < 6 := by
  intro x hx
  simp only [es6, List.mem_cons, List.not_mem_nil, or_false] at hx
  rcases hx with rfl | rfl | rfl | rfl | rfl | rfl <;> decide
theorem nodup6 : (es6.toList.map (·.born)).Nodup := by decide

/-- A part of the code that the abstract machine runs. -/
theorem part {c : Code} {env env1 : List Value} {σ σ1 : St} {x : AExit} (hg : codeGood GR c = true) (h : aexec Tryz.prog GR 100 callR c env σ = some (x, env1, σ1)) {φ : PMap} {w : World} {a : Act} (hr : RH Tryz.prog φ σ w) (hgl : GL GR φ σ) (he : RVl φ σ.n env a.tmps.toList) (hd : a.defers = []) :
    c.wp Tryz.prog (XRel Tryz.prog φ σ w [] x env1 σ1) a w := aexec_sound fineR.names fineR.draw 100 soundR [] c env σ x env1 σ1 hg h φ w a hr hgl he hd
theorem then_part {c R : Code} {env env1 : List Value} {σ σ1 : St} {Q : Exit → Act → World → Prop} (hg : codeGood GR c = true) (h : aexec Tryz.prog GR 100 callR c env σ = some (.normal, env1, σ1)) {φ : PMap} {w : World} {a : Act} (hr : RH Tryz.prog φ σ w) (hgl : GL GR φ σ) (he : RVl φ σ.n env a.tmps.toList) (hd : a.defers = [])
    (hk : ∀ φ1 w1 a1, Frm φ σ w φ1 σ1 w1 → RH Tryz.prog φ1 σ1 w1 → GL GR φ1 σ1 → RVl φ1 σ1.n env1 a1.tmps.toList → a1.defers = [] → R.wp Tryz.prog Q a1 w1) : (Code.seq c R).wp Tryz.prog Q a w := by
  refine wp_seq (wp_mono (part hg h hr hgl he hd) fun E a1 w1 q => ?_)
  obtain ⟨hd1, φ1, hf, hr1, q⟩ := q
  cases E <;> first | exact q.elim | skip
  exact hk φ1 w1 a1 hf hr1 (hgl.frm hf) q hd1

/-- What is left behind the loop over the map. -/
def Over (φ0 : PMap) (w0 : World) (a : Act) (w : World) : Prop := ∃ φ g, Frm φ0 σB w0 φ st1 w ∧ RH Tryz.prog φ st1 w ∧ GL GR φ st1 ∧ RVl φ st1.n (envT g (.tuple #[.bool false]) false) a.tmps.toList ∧ a.defers = []
/-- In the loop. -/
structure In (φ0 : PMap) (w0 : World) (seen : Array Nat) (a : Act) (w : World) (φ : PMap) (r bm : Nat) : Prop where
  frm : Frm φ0 σB w0 φ (stJ (seen.contains 0)) w
  rh : RH Tryz.prog φ (stJ (seen.contains 0)) w
  gl : GL GR φ (stJ (seen.contains 0))
  it : Iter φ (stJ (seen.contains 0)) w 14 r bm 6 seen
  new : w0.heap.size ≤ r
  map : φ.at_ 11 = ⟨bm, 0, none⟩
  env : ∃ g, RVl φ (stJ (seen.contains 0)).n (envJ g) a.tmps.toList
  defers : a.defers = []

theorem ptr_of {φ : PMap} {n r : Nat} {v : Value} (h : RV φ n (.pointer (some ⟨14, 0, none⟩)) v) (e : φ.at_ 14 = ⟨r, 0, none⟩) : v = .pointer (some ⟨r, 0, none⟩) := by
  cases h with
  | ptr => rw [e]
theorem map_of {φ : PMap} {n h r : Nat} {v : Value} (hv : RV φ n (.map (some h)) v) (e : φ.at_ h = ⟨r, 0, none⟩) : v = .map (some r) := by
  cases hv with
  | map _ r' _ h' => rw [e] at h'; injection h' with h'; rw [h']
theorem chk_eq {r : ARes} {σ : St} (h : chk r = some (.normal, true, σ)) : ∃ env, r = some (.normal, env, σ) ∧ isJ env = true := by
  unfold chk at h
  rw [Option.map_eq_some_iff] at h
  obtain ⟨⟨x, e, s⟩, h1, h2⟩ := h
  injection h2 with h2 h3
  injection h3 with h3 h4
  simp only at h2 h3 h4
  subst h2 h4
  exact ⟨e, h1, h3⟩
theorem body_run {e : MapEntry} {seen : Array Nat} (g : Nat → Value) (he : e ∈ es6.toList) (hs : seen.contains e.born = false) :
    cleanV e.key = true ∧ cleanV e.val = true ∧ ∃ env, aexec Tryz.prog GR 100 callR cR (env6 g e.key e.val) (stJ (seen.contains 0)) = some (.normal, env, stJ ((seen.push e.born).contains 0)) ∧ isJ env = true := by
  have key : ∀ b : Nat, b ≠ 0 → (seen.push b).contains 0 = seen.contains 0 := by
    intro b hb
    rw [contains_push]
    have : (0 == b) = false := by simpa using Ne.symm hb
    rw [this, Bool.or_false]
  simp only [es6, List.mem_cons, List.not_mem_nil, or_false] at he
  rcases he with rfl | rfl | rfl | rfl | rfl | rfl
  · refine ⟨rfl, rfl, ?_⟩
    have e1 : (seen.push 0).contains 0 = true := by rw [contains_push]; simp
    simp only at hs ⊢
    rw [hs, e1]
    exact chk_eq (b0 g)
  all_goals
    refine ⟨rfl, rfl, ?_⟩
    simp only
    rw [key _ (by decide)]
    cases seen.contains 0
  · exact chk_eq (b1_0 g)
  · exact chk_eq (b1_1 g)
  · exact chk_eq (b2_0 g)
  · exact chk_eq (b2_1 g)
  · exact chk_eq (b3_0 g)
  · exact chk_eq (b3_1 g)
  · exact chk_eq (b4_0 g)
  · exact chk_eq (b4_1 g)
  · exact chk_eq (b5_0 g)
  · exact chk_eq (b5_1 g)

theorem loop_run {φ0 : PMap} {w0 : World} {Q : Exit → Act → World → Prop} (hQ : ∀ a w, Over φ0 w0 a w → Q (.exit 0) a w) : ∀ n seen a w φ r bm, (leftOf es6 seen).size < n → In φ0 w0 seen a w φ r bm → Code.rounds Tryz.prog cL Q n a w := by
  intro n
  induction n with
  | zero => intro seen a w φ r bm h; omega
  | succ n ih =>
    intro seen a w φ r bm hlt I
    obtain ⟨g, he⟩ := I.env
    rw [rounds_succ, cL_eq]
    have hit : RV φ (stJ (seen.contains 0)).n (.pointer (some ⟨14, 0, none⟩)) (a.eval (.tmp 17)) := by
      have := ev_rel I.gl he (x := .tmp 17) rfl
      exact this
    have hev := ptr_of hit I.it.at_
    refine wp_seq ?_
    rw [c4_eq]
    refine wp_region_list ?_
    rw [ops4]
    rcases next_sim I.rh I.it (m_J _) clean6 I.map old6 nodup6 (op (opsC cN4) 0).type with ⟨h0, hrun⟩ | ⟨e, hem, w1, hrun, hr1, hI1, hf1, hent⟩
    · -- nothing is left
      have hx : (execOp a.eval (op (opsC cN4) 0)).run Tryz.prog w = .ok (.value (.tuple #[.bool false])) w := by
        show (do pure (Next.value (← Instr.next (a.eval (.tmp 17)) false _)) : Sem Next).run Tryz.prog w = _
        rw [hev, Sem.run_bind, hrun]
        rfl
      refine wpList_value rfl hx ?_
      have hp := put_rel (a := a) he (some 18) (RV.tuple (a := #[.bool false]) (a' := #[.bool false]) (.cons (.bool false) .nil))
      have hs : seen.contains 0 = true := all_seen es6 seen h0 ⟨.string (bs TITLE), .string (bs (nm 0)), 0⟩ (by simp [es6])
      refine wpList_mono (fun E a1 w1 q => ?_) (aops_sound fineR.names soundR (ds := []) _ _ _ _ _ _ (fun o ho => good_op c4_eq g4 o (by rw [ops4]; exact .tail _ ho)) (tail4' g _) φ w _ I.rh I.gl hp (by rw [put_defers]; exact I.defers))
      obtain ⟨hd1, φ1, hfr, hr1, q⟩ := q
      cases E <;> first | exact q.elim | skip
      refine wp_seq (wp_mono (part gIf (if4' g _) hr1 (I.gl.frm hfr) q hd1) fun E a2 w2 q => ?_)
      obtain ⟨hd2, φ2, hfr2, hr2, q⟩ := q
      cases E <;> first | exact q.elim | skip
      obtain ⟨hi, q⟩ := q
      subst hi
      have hfrm := (I.frm.trans hfr).trans hfr2
      have hgl := (I.gl.frm hfr).frm hfr2
      rw [hs] at hfrm hr2 q hgl
      exact hQ a2 w2 ⟨φ2, g, hfrm, hr2, hgl, q, hd2⟩
    · -- an entry
      obtain ⟨hem1, hem2⟩ := mem_left hem
      obtain ⟨hk, hv, env1, hbody, hj⟩ := body_run g hem1 hem2
      have hx : (execOp a.eval (op (opsC cN4) 0)).run Tryz.prog w = .ok (.value (.tuple #[.bool true, e.key, e.val])) w1 := by
        show (do pure (Next.value (← Instr.next (a.eval (.tmp 17)) false _)) : Sem Next).run Tryz.prog w = _
        rw [hev, Sem.run_bind, hrun]
        rfl
      refine wpList_value rfl hx ?_
      have hp := put_rel (a := a) he (some 18) (RV.tuple (a := #[.bool true, e.key, e.val]) (a' := #[.bool true, e.key, e.val]) (.cons (.bool true) (.cons (rv_clean hk _ _) (.cons (rv_clean hv _ _) .nil))))
      have hF1 := hf1 _ _ _ I.frm I.new
      refine wpList_mono (fun E a1 w2 q => ?_) (aops_sound fineR.names soundR (ds := []) _ _ _ _ _ _ (fun o ho => good_op c4_eq g4 o (by rw [ops4]; exact .tail _ ho)) (tail4 g e.key e.val _) φ w1 _ hr1 I.gl hp (by rw [put_defers]; exact I.defers))
      obtain ⟨hd1, φ1, hfr, hr2, q⟩ := q
      cases E <;> first | exact q.elim | skip
      refine wp_seq (wp_mono (part gIf (if4 g _ _ _) hr2 (I.gl.frm hfr) q hd1) fun E a2 w3 q => ?_)
      obtain ⟨hd2, φ2, hfr2, hr3, q⟩ := q
      cases E <;> first | exact q.elim | skip
      have hF2 := (hF1.trans hfr).trans hfr2
      have hI2 := (hI1.frm hfr).frm hfr2
      have hgl2 := (I.gl.frm hfr).frm hfr2
      have h11 : 11 < (stJ (seen.contains 0)).n := Nat.lt_of_lt_of_le (by omega) (n_J _)
      have hmap2 : φ2.at_ 11 = ⟨bm, 0, none⟩ := by rw [(hfr2.ext 11 h11).1, (hfr.ext 11 h11).1]; exact I.map
      have hent2 := entry_run hr3 hI2 (m_J _) clean6 hmap2 nodup6 hem1
      refine wp_block (wp_seq ?_)
      rw [c5_eq]
      refine wp_region_list ?_
      rw [ops5]
      have hit2 : RV φ2 (stJ (seen.contains 0)).n (.pointer (some ⟨14, 0, none⟩)) (a2.eval (.tmp 17)) := by
        have := ev_rel hgl2 q (x := .tmp 17) rfl
        exact this
      have hev2 := ptr_of hit2 hI2.at_
      have hx2 : (execOp a2.eval (op (opsC cN5) 0)).run Tryz.prog w3 = .ok (.value (.tuple #[e.key, e.val])) w3 := by
        show (do pure (Next.value (← Instr.entry (a2.eval (.tmp 17)))) : Sem Next).run Tryz.prog w3 = _
        rw [hev2, Sem.run_bind, hent2]
        rfl
      refine wpList_value rfl hx2 ?_
      have hp2 := put_rel (a := a2) q (some 20) (RV.tuple (a := #[e.key, e.val]) (a' := #[e.key, e.val]) (.cons (rv_clean hk _ _) (.cons (rv_clean hv _ _) .nil)))
      refine wpList_mono (fun E a3 w4 q => ?_) (aops_sound fineR.names soundR (ds := []) _ _ _ _ _ _ (fun o ho => good_op c5_eq g5 o (by rw [ops5]; exact .tail _ ho)) (tail5 g e.key e.val _) φ2 w3 _ hr3 hgl2 hp2 (by rw [put_defers]; exact hd2))
      obtain ⟨hd3, φ3, hfr3, hr4, q⟩ := q
      cases E <;> first | exact q.elim | skip
      refine wp_mono (part gR_ hbody hr4 (hgl2.frm hfr3) q hd3) fun E a4 w5 q => ?_
      obtain ⟨hd4, φ4, hfr4, hr5, q⟩ := q
      cases E <;> first | exact q.elim | skip
      have hgl3 := (hgl2.frm hfr3).frm hfr4
      have hmap3 : φ4.at_ 11 = ⟨bm, 0, none⟩ := by rw [(hfr4.ext 11 h11).1, (hfr3.ext 11 h11).1]; exact hmap2
      rw [isJ_eq hj] at q
      exact ih (seen.push e.born) a4 w5 φ4 r bm (by have := left_shrinks es6 seen e hem; omega)
        ⟨(hF2.trans hfr3).trans hfr4, hr5, hgl3, (hI2.frm hfr3).frm hfr4, I.new, hmap3, ⟨_, q⟩, hd4⟩
theorem fin' (g : Nat → Value) : ∃ env σ, aexec Tryz.prog GR 100 callR cE (envT g (.tuple #[.bool false]) false) st1 = some (.ret, env, σ) ∧ env.getD 2 undef = .slice (some ⟨21, 0, none⟩) 2 2 ∧ σ.get 21 = some (.cells rows 26 true) := by
  have := fin g
  rw [Option.map_eq_some_iff] at this
  obtain ⟨⟨x, e, s⟩, h1, h2⟩ := this
  injection h2 with h2 h3
  injection h3 with h3 h4
  simp only at h2 h3 h4
  subst h2
  exact ⟨e, s, h1, h3, h4⟩

/-- Read gives two tags. -/
theorem read_run {φ : PMap} {w : World} {args' : Array Value} (hr : RH Tryz.prog φ σB w) (hgl : GL GR φ σB) (ha : RVl φ σB.n [recV 8] args'.toList) :
    Calls Tryz.prog 10 args' w fun E w1 => ∃ v' φ1 σ1, E = .returned v' ∧ Frm φ σB w φ1 σ1 w1 ∧ RH Tryz.prog φ1 σ1 w1 ∧ σ1.get 21 = some (.cells rows 26 true) ∧ RV φ1 σ1.n (.slice (some ⟨21, 0, none⟩) 2 2) v' := by
  have hbody : Tryz.f10.body = some rd := by kernel_rfl
  refine calls_of_wp Tryz.func10 hbody ?_
  have he : RVl φ σB.n e0 (args' ++ Array.replicate (Tryz.f10.ntmps - args'.size) undef).toList := by
    have h1 : args'.size = 1 := by rw [← Array.length_toList, ← ha.length]; rfl
    rw [Array.toList_append, Array.toList_replicate, h1]
    exact ha.append (rvl_undefs 56)
  rw [rd_eq]
  refine then_part gA hA hr hgl he rfl fun φ1 w1 a1 hf1 hr1 hgl1 he1 hd1 => ?_
  refine then_part gB hB hr1 hgl1 he1 hd1 fun φ2 w2 a2 hf2 hr2 hgl2 he2 hd2 => ?_
  refine then_part gC hC hr2 hgl2 he2 hd2 fun φ3 w3 a3 hf3 hr3 hgl3 he3 hd3 => ?_
  have hF3 := (hf1.trans hf2).trans hf3
  -- range
  obtain ⟨bm, hbm, _⟩ := map_clean hr3 m_C clean6
  have h3 : a3.eval (.tmp 3) = .map (some bm) := by
    have := ev_rel hgl3 he3 (x := .tmp 3) rfl
    rw [show ev GR (envOf rC) (.tmp 3) = .map (some 11) from e3_C] at this
    exact map_of this hbm
  have ht : Tryz.prog.underlying 56 = some (.map 9 9) := by kernel_rfl
  obtain ⟨φ4, w4, hrun, hf4, hr4, hI4⟩ := range_sim hr3 m_C clean6 ht hbm
  refine wp_seq (wp_seq ?_)
  rw [cD_eq]
  refine wp_region_list ?_
  rw [opsD]
  have hx1 : (execOp a3.eval (op (opsC cD) 0)).run Tryz.prog w3 = .ok (.value (.map (some bm))) w3 := by
    show (pure (Next.value (a3.eval (.tmp 3))) : Sem Next).run Tryz.prog w3 = _
    rw [h3]
    rfl
  refine wpList_value rfl hx1 ?_
  have hp1 := put_rel (a := a3) he3 (some 16) (RV.map (φ := φ3) (n := (stOf rC).n) 11 bm (by rw [n_C]; omega) hbm)
  have h16 : (a3.put (some 16) (.map (some bm))).eval (.tmp 16) = .map (some bm) := by
    have hg := (RVl.get hp1 16 (v := .map (some 11)) (by kernel_rfl))
    obtain ⟨v', g1, g2⟩ := hg
    have : (a3.put (some 16) (.map (some bm))).eval (.tmp 16) = v' := by
      show (a3.put (some 16) (.map (some bm))).tmps.getD 16 undef = v'
      rw [Array.getElem?_toList] at g1
      rw [Array.getD_eq_getD_getElem?, g1]
      rfl
    rw [this]
    exact map_of g2 hbm
  have hx2 : (execOp (a3.put (some 16) (.map (some bm))).eval (op (opsC cD) 1)).run Tryz.prog w3 = .ok (.value (.pointer (some ⟨w3.heap.size, 0, none⟩))) w4 := by
    show (do pure (Next.value (← Instr.range 56 ((a3.put (some 16) (.map (some bm))).eval (.tmp 16)))) : Sem Next).run Tryz.prog w3 = _
    rw [h16, Sem.run_bind, hrun]
    rfl
  refine wpList_value rfl hx2 ?_
  have hsn : ((stOf rC).alloc .dead).n = (stOf rC).n + 1 := rfl
  have hp2 := put_rel (a := a3.put (some 16) (.map (some bm))) (hp1.mono hf4.ext hf4.n_le) (some 17) (RV.ptr (φ := φ4) (n := ((stOf rC).alloc .dead).n) 14 0 (by rw [hsn, n_C]; omega) (by have := hI4.at_; rw [n_C] at this; rw [this]))
  have hat14 := hI4.at_
  rw [n_C] at hat14
  rw [hat14] at hp2
  simp only [Nat.add_zero] at hp2
  refine wp_block ?_
  refine wp_loop_rounds 7 ?_
  have hJ : RVl φ4 ((stOf rC).alloc .dead).n envD ((a3.put (some 16) (.map (some bm))).put (some 17) (.pointer (some ⟨w3.heap.size, 0, none⟩))).tmps.toList := hp2
  rw [isJ_eq j_D] at hJ
  rw [n_C] at hI4
  have hz : stJ ((#[] : Array Nat).contains 0) = (stOf rC).alloc .dead := by rw [show (#[] : Array Nat).contains 0 = false from by simp]; rfl
  have hle : (leftOf es6 #[]).size ≤ es6.size := Array.size_filter_le
  refine loop_run (φ0 := φ) (w0 := w) ?_ 7 #[] _ _ φ4 w3.heap.size bm (Nat.lt_succ_of_le hle) ⟨by rw [hz]; exact hF3.trans hf4, by rw [hz]; exact hr4, by rw [hz]; exact hgl3.frm hf4, by rw [hz]; exact hI4, hF3.size_le, by rw [(hf4.ext 11 (by rw [n_C]; omega)).1]; exact hbm, ⟨_, by rw [hz]; exact hJ⟩, by rw [put_defers, put_defers]; exact hd3⟩
  rintro a5 w5 ⟨φ5, g, hf5, hr5, hgl5, he5, hd5⟩
  show (cE).wp _ _ a5 w5
  obtain ⟨env, σ1, hx, hres, hcell⟩ := fin' g
  refine wp_mono (part gE hx hr5 hgl5 he5 hd5) fun E a6 w6 q => ?_
  obtain ⟨hd6, φ6, hf6, hr6, q⟩ := q
  cases E <;> first | exact q.elim | skip
  obtain ⟨v', h4, h5⟩ := result_run hr6 (fn := Tryz.f10) q (l := [env.getD 2 undef]) rfl
  rw [show tup [env.getD 2 undef] = env.getD 2 undef from rfl, hres] at h5
  exact ⟨hd6, v', h4, v', φ6, σ1, rfl, hf5.trans hf6, hr6, hcell, h5⟩
end Go.AM.Fld

/- A part of the proof that FieldsSame, called with any two lists of tags (the laid tables as the text lays them), returns true and leaves its arguments as they were. Here: its code and calls. -/
import Derived.Test.YticpmageknpcmaaGreatDoorAmB
import Derived.LoopN
import Derived.Orders
set_option linter.unusedVariables false
set_option linter.unusedSimpArgs false
namespace Go.AM
open Go

/-! The abstract machine's code: regions in the text's order, calls and loops on a count. -/

inductive AEnd where
  | ret (v : Value)
  | panic (v : Value)

inductive AExit where
  | normal
  | exit (id : Nat)
  | ret
  | panic (v : Value)

structure Cfg where
  gl : Nat → Option Nat
  ok : FuncId → Bool
  hooked : FuncId → Bool
  hook : FuncId → List Value → St → Option (AEnd × St)
  draw : Program → (FuncId → List Value → St → Option (AEnd × St)) → Array Oper → List Value → St → Option (AExit × List Value × St)

def ev (G : Cfg) (env : List Value) : Operand → Value
  | .tmp t => env.getD t undef
  | .const v => v
  | .global g => match G.gl g with | some h => .pointer (some ⟨h, 0, none⟩) | none => undef
  | .func f => .func (.func f) #[] #[]
def aput (dst : Option Tmp) (v : Value) (env : List Value) : List Value := match dst with | some d => env.set d v | none => env
def ayield (ops : Array Oper) (env : List Value) (j : Nat) : Option Bool := match ((ops[j]?).bind (·.dst)).bind (env[·]?) with | some (.bool b) => some b | _ => none
abbrev ACall := FuncId → List Value → St → Option (AEnd × St)
abbrev ARes := Option (AExit × List Value × St)

def aops (P : Program) (G : Cfg) (call : ACall) (ops : Array Oper) : List Oper → List Value → St → ARes
  | [], env, σ => some (.normal, env, σ)
  | o :: rest, env, σ =>
    if Region.wanted o (ayield ops env) then
      match aop P (ev G env) o σ with
      | some (.value v, σ1) => aops P G call ops rest (aput o.dst v env) σ1
      | some (.skip, σ1) => aops P G call ops rest (aput o.dst undef env) σ1
      | some (.enter f args, σ1) => match call f args.toList σ1 with
        | some (.ret v, σ2) => aops P G call ops rest (aput o.dst v env) σ2
        | some (.panic v, σ2) => some (.panic v, env, σ2)
        | none => none
      | some (.panic v, σ1) => some (.panic v, env, σ1)
      | none => none
    else aops P G call ops rest (aput o.dst undef env) σ

def aloop (body : List Value → St → ARes) : Nat → List Value → St → ARes
  | 0, _, _ => none
  | n + 1, env, σ => match body env σ with
    | some (.normal, env1, σ1) => aloop body n env1 σ1
    | r => r

def aexec (P : Program) (G : Cfg) (n : Nat) (call : ACall) : Code → List Value → St → ARes
  | .skip, env, σ => some (.normal, env, σ)
  | .region _ ops false, env, σ => aops P G call ops ops.toList env σ
  | .region _ ops true, env, σ => G.draw P call ops env σ
  | .seq a b, env, σ => match aexec P G n call a env σ with
    | some (.normal, env1, σ1) => aexec P G n call b env1 σ1
    | r => r
  | .cond c a b, env, σ => match ev G env c with
    | .bool t => if t then aexec P G n call a env σ else aexec P G n call b env σ
    | _ => none
  | .block id c, env, σ => match aexec P G n call c env σ with
    | some (.exit i, env1, σ1) => if i = id then some (.normal, env1, σ1) else some (.exit i, env1, σ1)
    | r => r
  | .loop c, env, σ => aloop (aexec P G n call c) n env σ
  | .exit id, env, σ => some (.exit id, env, σ)
  | .ret, env, σ => some (.ret, env, σ)
  | _, _, _ => none

def aresult (P : Program) (env : List Value) (σ : St) : ResultVar → Option Value
  | .tmp t => some (env.getD t undef)
  | .cell a t => match env.getD a undef with
    | .pointer (some b) => (arun P (loadVar t b) σ).map (·.1)
    | _ => none
def aresults (P : Program) (env : List Value) (σ : St) : List ResultVar → Option (List Value)
  | [] => some []
  | r :: l => match aresult P env σ r, aresults P env σ l with
    | some v, some vs => some (v :: vs)
    | _, _ => none
def tup : List Value → Value
  | [v] => v
  | l => .tuple l.toArray

def abody (P : Program) (G : Cfg) (n : Nat) (call : ACall) (fn : Func) (args : List Value) (σ : St) : Option (AEnd × St) :=
  match fn.body with
  | none => none
  | some c => match aexec P G n call c (args ++ List.replicate (fn.ntmps - args.length) undef) σ with
    | some (.normal, env, σ1) | some (.ret, env, σ1) => (aresults P env σ1 fn.results.toList).map fun l => (.ret (tup l), σ1)
    | some (.panic v, _, σ1) => some (.panic v, σ1)
    | _ => none

def acall (P : Program) (G : Cfg) : Nat → ACall
  | 0, _, _, _ => none
  | n + 1, f, args, σ => if G.hooked f then G.hook f args σ else if G.ok f then match P.funcs[f]? with
      | some fn => abody P G (n + 1) (acall P G n) fn args σ
      | none => none
    else none

/-! ### What is looked at once for each function's text -/
def opndGood (G : Cfg) : Operand → Bool
  | .tmp _ | .func _ => true
  | .const v => cleanV v
  | .global g => (G.gl g).isSome
def codeGood (G : Cfg) : Code → Bool
  | .region _ ops _ => ops.all fun o => o.op.operands.all (opndGood G)
  | .seq a b => codeGood G a && codeGood G b
  | .cond c a b => opndGood G c && codeGood G a && codeGood G b
  | .block _ c | .loop c => codeGood G c
  | _ => true

/-! ### Against the machine -/
def GL (G : Cfg) (φ : PMap) (σ : St) : Prop := ∀ g h, G.gl g = some h → h < σ.n ∧ φ.at_ h = ⟨g, 0, none⟩
theorem GL.frm {G : Cfg} {φ φ1 : PMap} {σ σ1 : St} {w w1 : World} (h : GL G φ σ) (hf : Frm φ σ w φ1 σ1 w1) : GL G φ1 σ1 := fun g k hk => by
  obtain ⟨a, b⟩ := h g k hk
  exact ⟨Nat.lt_of_lt_of_le a hf.n_le, ((hf.ext k a).1).trans b⟩

def ERel (P : Program) (φ : PMap) (σ : St) (w : World) (e : AEnd) (σ1 : St) (E : Ending) (w1 : World) : Prop :=
  ∃ φ1, Frm φ σ w φ1 σ1 w1 ∧ RH P φ1 σ1 w1 ∧ match e, E with
    | .ret v, .returned v' => RV φ1 σ1.n v v'
    | .panic v, .panicked c => ∃ v', c = [{ v := v', recovered := false }] ∧ RV φ1 σ1.n v v'
    | _, _ => False
def Sound (P : Program) (G : Cfg) (call : ACall) : Prop := ∀ f args σ e σ1, call f args σ = some (e, σ1) → ∀ φ w (args' : Array Value), RH P φ σ w → GL G φ σ → RVl φ σ.n args args'.toList →
  Calls P f args' w (ERel P φ σ w e σ1)

def XRel (P : Program) (φ : PMap) (σ : St) (w : World) (ds : List Deferred) (x : AExit) (env1 : List Value) (σ1 : St) (E : Exit) (a1 : Act) (w1 : World) : Prop :=
  a1.defers = ds ∧ ∃ φ1, Frm φ σ w φ1 σ1 w1 ∧ RH P φ1 σ1 w1 ∧ match x, E with
    | .normal, .normal | .ret, .ret => RVl φ1 σ1.n env1 a1.tmps.toList
    | .exit i, .exit j => i = j ∧ RVl φ1 σ1.n env1 a1.tmps.toList
    | .panic v, .panic c => ∃ v', c = [{ v := v', recovered := false }] ∧ RV φ1 σ1.n v v'
    | _, _ => False

theorem XRel.frm {P : Program} {φ φ0 : PMap} {σ σ0 : St} {w w0 : World} {ds : List Deferred} {x : AExit} {env1 : List Value} {σ1 : St} {E : Exit} {a1 : Act} {w1 : World}
    (hf : Frm φ0 σ0 w0 φ σ w) (h : XRel P φ σ w ds x env1 σ1 E a1 w1) : XRel P φ0 σ0 w0 ds x env1 σ1 E a1 w1 := by
  obtain ⟨hd, φ1, h1, h2, h3⟩ := h
  exact ⟨hd, φ1, hf.trans h1, h2, h3⟩

section
variable {P : Program} {G : Cfg} {φ : PMap} {σ : St} {w : World}

theorem rvl_getD {n : Nat} {l : List Value} {a : Array Value} (h : RVl φ n l a.toList) (t : Nat) : RV φ n (l.getD t undef) (a.getD t undef) := by
  have e : a.getD t undef = a.toList.getD t undef := by simp [Array.getD_eq_getD_getElem?, List.getD_eq_getElem?_getD]
  rw [e, List.getD_eq_getElem?_getD, List.getD_eq_getElem?_getD]
  cases hl : l[t]? with
  | none =>
    have : a.toList[t]? = none := by
      rw [List.getElem?_eq_none_iff] at hl ⊢
      rw [← h.length]; exact hl
    rw [this]
    exact .undef_
  | some v =>
    obtain ⟨v', h1, h2⟩ := h.get t hl
    rw [h1]
    exact h2
theorem ev_rel (hg : GL G φ σ) {env : List Value} {a : Act} (he : RVl φ σ.n env a.tmps.toList) {x : Operand} (hx : opndGood G x = true) : RV φ σ.n (ev G env x) (a.eval x) := by
  cases x with
  | tmp t => exact rvl_getD he t
  | const v => exact rv_clean hx φ σ.n
  | global g =>
    cases hk : G.gl g with
    | none => simp [opndGood, hk] at hx
    | some h =>
      obtain ⟨h1, h2⟩ := hg g h hk
      have := RV.ptr (φ := φ) (n := σ.n) h 0 h1 (by rw [h2])
      simp only [h2] at this
      simpa [ev, hk, Act.eval] using this
  | func f => exact .func _ .nil .nil
theorem put_rel {n : Nat} {env : List Value} {a : Act} (he : RVl φ n env a.tmps.toList) (dst : Option Tmp) {v v' : Value} (hv : RV φ n v v') : RVl φ n (aput dst v env) (a.put dst v').tmps.toList := by
  cases dst with
  | none => exact he
  | some d => simpa [aput, Act.put] using he.set d hv
theorem put_defers (a : Act) (dst : Option Tmp) (v : Value) : (a.put dst v).defers = a.defers := by cases dst <;> rfl
theorem yield_rel {n : Nat} {env : List Value} {a : Act} (he : RVl φ n env a.tmps.toList) (ops : Array Oper) : ayield ops env = yielded ops a.tmps := by
  funext j
  unfold ayield yielded
  cases hd : (ops[j]?).bind (·.dst) with
  | none => rfl
  | some d =>
    simp only [Option.bind_some]
    cases hl : env[d]? with
    | none =>
      have : a.tmps[d]? = none := by
        rw [← Array.getElem?_toList]
        rw [List.getElem?_eq_none_iff] at hl ⊢
        rw [← he.length]; exact hl
      rw [this]
    | some v =>
      obtain ⟨v', h1, h2⟩ := he.get d hl
      rw [Array.getElem?_toList] at h1
      rw [h1]
      cases h2 <;> rfl
end
end Go.AM
namespace Go.AM
open Go

/-! What the abstract machine's code gives, the program's code gives. -/
section
variable {P : Program} {G : Cfg}

theorem oper_mono {o : Oper} {a : Act} {w : World} {K K' : Act → World → Prop} {Q Q' : Exit → Act → World → Prop} (hk : ∀ a w, K a w → K' a w) (hq : ∀ e a w, Q e a w → Q' e a w)
    (h : o.wp P a w K Q) : o.wp P a w K' Q' := by
  unfold Oper.wp at *
  generalize (execOp a.eval o).run P w = r at *
  cases r with
  | ok n w' =>
    cases n <;> simp only [Oper.upon] at h ⊢ <;>
      first
        | exact hk _ _ h
        | exact Calls.mono h (fun e w'' he => by
            cases e with
            | returned v => exact hk _ _ he
            | panicked c => exact hq _ _ _ he
            | outgrown => exact let ⟨a, w, q⟩ := he; ⟨a, w, hq _ _ _ q⟩)
        | exact Rows.mono h (fun _ _ he => hk _ _ he)
  | halt x w' => cases x <;> simp only [Oper.upon] at h ⊢ <;> first | exact hq _ _ _ h | exact h
theorem wpList_mono {ops : Array Oper} {Q Q' : Exit → Act → World → Prop} (hq : ∀ e a w, Q e a w → Q' e a w) : ∀ {l : List Oper} {a : Act} {w : World}, wpList P ops Q l a w → wpList P ops Q' l a w := by
  intro l
  induction l with
  | nil => intro a w h; exact hq _ _ _ h
  | cons o l ih =>
    intro a w h
    unfold wpList at h ⊢
    split
    · rename_i hw
      rw [if_pos hw] at h
      rcases h with h | ⟨h1, a0, w0, h2⟩
      · exact .inl (oper_mono (fun a w h => ih h) hq h)
      · exact .inr ⟨h1, a0, w0, hq _ _ _ h2⟩
    · rename_i hw
      rw [if_neg hw] at h
      exact ih h
theorem rounds_mono {c : Code} {Q Q' : Exit → Act → World → Prop} (hq : ∀ e a w, Q e a w → Q' e a w) : ∀ n {a : Act} {w : World}, Code.rounds P c Q n a w → Code.rounds P c Q' n a w := by
  intro n
  induction n with
  | zero => intro a w h; exact h.elim
  | succ n ih =>
    intro a w h
    rw [rounds_succ] at h ⊢
    refine wp_mono h fun E a1 w1 q => ?_
    cases E <;> first | exact ih q | exact hq _ _ _ q

theorem aops_sound (hn : namesOk P) {call : ACall} (hs : Sound P G call) {ops : Array Oper} {ds : List Deferred} : ∀ (l : List Oper) (env : List Value) (σ : St) (x : AExit) (env1 : List Value) (σ1 : St),
    (∀ o ∈ l, ∀ y ∈ o.op.operands, opndGood G y = true) → aops P G call ops l env σ = some (x, env1, σ1) → ∀ φ w (a : Act), RH P φ σ w → GL G φ σ → RVl φ σ.n env a.tmps.toList → a.defers = ds →
    wpList P ops (XRel P φ σ w ds x env1 σ1) l a w := by
  intro l
  induction l with
  | nil =>
    intro env σ x env1 σ1 _ h φ w a hr hg he hd
    injection h with h
    injection h with h1 h
    injection h with h2 h3
    subst h1 h2 h3
    exact ⟨hd, φ, .refl _ _ _, hr, he⟩
  | cons o l ih =>
    intro env σ x env1 σ1 hgd h φ w a hr hg he hd
    have hgl : ∀ o ∈ l, ∀ y ∈ o.op.operands, opndGood G y = true := fun o ho => hgd o (by simp [ho])
    have next : ∀ {φ1 w1 σ2 v v'}, Frm φ σ w φ1 σ2 w1 → RH P φ1 σ2 w1 → RV φ1 σ2.n v v' → aops P G call ops l (aput o.dst v env) σ2 = some (x, env1, σ1) →
        wpList P ops (XRel P φ σ w ds x env1 σ1) l (a.put o.dst v') w1 := by
      intro φ1 w1 σ2 v v' hf h1 hv h2
      have := ih _ _ _ _ _ hgl h2 φ1 w1 (a.put o.dst v') h1 (hg.frm hf) (put_rel (he.mono hf.ext hf.n_le) o.dst hv) (by rw [put_defers]; exact hd)
      exact wpList_mono (fun E a1 w1 q => XRel.frm hf q) this
    unfold aops at h
    unfold wpList
    rw [yield_rel he ops] at h
    split at h
    · rename_i hw
      rw [if_pos hw]
      left
      unfold Oper.wp
      have hρ : ∀ y, y ∈ o.op.operands → RV φ σ.n (ev G env y) (a.eval y) := fun y hy => ev_rel hg he (hgd o (by simp) y hy)
      cases hop : aop P (ev G env) o σ with
      | none => rw [hop] at h; cases h
      | some r =>
        obtain ⟨r, σ2⟩ := r
        rw [hop] at h
        have := aop_sim hn hr hρ hop
        cases r with
        | value v =>
          obtain ⟨φ1, w1, v', e1, hf, h1, hv⟩ := this
          rw [e1]
          exact next hf h1 hv h
        | skip =>
          obtain ⟨φ1, w1, e1, hf, h1⟩ := this
          rw [e1]
          exact next hf h1 .undef_ h
        | enter f args =>
          obtain ⟨args', e1, h1, h2⟩ := this
          subst h1
          rw [e1]
          simp only at h
          cases hc : call f args.toList σ2 with
          | none => rw [hc] at h; cases h
          | some r =>
            obtain ⟨e, σ3⟩ := r
            rw [hc] at h
            refine Calls.mono (hs f args.toList σ2 e σ3 hc φ w args' hr hg h2) fun E w1 hE => ?_
            obtain ⟨φ1, hf, h3, h4⟩ := hE
            cases e with
            | ret v =>
              cases E with
              | returned v' => exact next hf h3 h4 h
              | panicked c => exact h4.elim
              | outgrown => exact h4.elim
            | panic v =>
              injection h with h
              injection h with h5 h
              injection h with h6 h7
              subst h5 h6 h7
              cases E with
              | returned v' => exact h4.elim
              | panicked c => exact ⟨hd, φ1, hf, h3, h4⟩
              | outgrown => exact h4.elim
        | panic v =>
          obtain ⟨v', e1, h1, h2⟩ := this
          subst h1
          rw [e1]
          injection h with h
          injection h with h5 h
          injection h with h6 h7
          subst h5 h6 h7
          exact ⟨hd, φ, .refl _ _ _, hr, v', rfl, h2⟩
    · rename_i hw
      rw [if_neg hw]
      exact next (.refl _ _ _) hr .undef_ h

def DrawSound (P : Program) (G : Cfg) : Prop := ∀ call, Sound P G call → ∀ (ops : Array Oper) (env : List Value) (σ : St) (x : AExit) (env1 : List Value) (σ1 : St),
  (∀ o ∈ ops.toList, ∀ y ∈ o.op.operands, opndGood G y = true) → G.draw P call ops env σ = some (x, env1, σ1) → ∀ φ w (a : Act) id, RH P φ σ w → GL G φ σ → RVl φ σ.n env a.tmps.toList →
    (Code.region id ops true).wp P (XRel P φ σ w a.defers x env1 σ1) a w

theorem aloop_sound {body : List Value → St → ARes} {c : Code} {ds : List Deferred} (hb : ∀ env σ x env1 σ1, body env σ = some (x, env1, σ1) → ∀ φ w (a : Act), RH P φ σ w → GL G φ σ → RVl φ σ.n env a.tmps.toList → a.defers = ds →
      c.wp P (XRel P φ σ w ds x env1 σ1) a w) :
    ∀ n env σ x env1 σ1, aloop body n env σ = some (x, env1, σ1) → x ≠ .normal ∧ ∀ φ w (a : Act), RH P φ σ w → GL G φ σ → RVl φ σ.n env a.tmps.toList → a.defers = ds →
      Code.rounds P c (XRel P φ σ w ds x env1 σ1) n a w := by
  intro n
  induction n with
  | zero => intro env σ x env1 σ1 h; cases h
  | succ n ih =>
    intro env σ x env1 σ1 h
    unfold aloop at h
    cases hc : body env σ with
    | none => rw [hc] at h; cases h
    | some r =>
      obtain ⟨x2, env2, σ2⟩ := r
      rw [hc] at h
      have h0 := hb env σ x2 env2 σ2 hc
      cases x2 with
      | normal =>
        obtain ⟨h1, h2⟩ := ih env2 σ2 x env1 σ1 h
        refine ⟨h1, fun φ w a hr hg he hd => ?_⟩
        rw [rounds_succ]
        refine wp_mono (h0 φ w a hr hg he hd) fun E a1 w1 q => ?_
        obtain ⟨hd1, φ1, hf, hr1, q⟩ := q
        cases E <;> first | exact q.elim | skip
        have := h2 φ1 w1 a1 hr1 (hg.frm hf) q hd1
        exact rounds_mono (fun E a2 w2 q => XRel.frm hf q) n this
      | exit i =>
        injection h with h
        injection h with h5 h
        injection h with h6 h7
        subst h5 h6 h7
        refine ⟨by simp, fun φ w a hr hg he hd => ?_⟩
        rw [rounds_succ]
        refine wp_mono (h0 φ w a hr hg he hd) fun E a1 w1 q => ?_
        cases E <;> first | exact q | (obtain ⟨_, _, _, _, q⟩ := q; exact q.elim)
      | ret =>
        injection h with h
        injection h with h5 h
        injection h with h6 h7
        subst h5 h6 h7
        refine ⟨by simp, fun φ w a hr hg he hd => ?_⟩
        rw [rounds_succ]
        refine wp_mono (h0 φ w a hr hg he hd) fun E a1 w1 q => ?_
        cases E <;> first | exact q | (obtain ⟨_, _, _, _, q⟩ := q; exact q.elim)
      | panic v =>
        injection h with h
        injection h with h5 h
        injection h with h6 h7
        subst h5 h6 h7
        refine ⟨by simp, fun φ w a hr hg he hd => ?_⟩
        rw [rounds_succ]
        refine wp_mono (h0 φ w a hr hg he hd) fun E a1 w1 q => ?_
        cases E <;> first | exact q | (obtain ⟨_, _, _, _, q⟩ := q; exact q.elim)

theorem aexec_sound (hn : namesOk P) (hD : DrawSound P G) (n : Nat) {call : ACall} (hs : Sound P G call) (ds : List Deferred) : ∀ (c : Code) (env : List Value) (σ : St) (x : AExit) (env1 : List Value) (σ1 : St),
    codeGood G c = true → aexec P G n call c env σ = some (x, env1, σ1) → ∀ φ w (a : Act), RH P φ σ w → GL G φ σ → RVl φ σ.n env a.tmps.toList → a.defers = ds →
    c.wp P (XRel P φ σ w ds x env1 σ1) a w := by
  intro c
  have fin : ∀ {env env1 : List Value} {σ σ1 : St} {x y : AExit}, some (x, env, σ) = some (y, env1, σ1) → x = y ∧ env = env1 ∧ σ = σ1 := by
    intro _ _ _ _ _ _ h
    injection h with h
    injection h with h5 h
    injection h with h6 h7
    exact ⟨h5, h6, h7⟩
  induction c with
  | skip =>
    intro env σ x env1 σ1 hgd h φ w a hr hg he hd
    obtain ⟨rfl, rfl, rfl⟩ := fin h
    exact wp_skip ⟨hd, φ, .refl _ _ _, hr, he⟩
  | region id ops draw =>
    intro env σ x env1 σ1 hgd h φ w a hr hg he hd
    have hgd' : ∀ o ∈ ops.toList, ∀ y ∈ o.op.operands, opndGood G y = true := by
      intro o ho y hy
      simp only [codeGood] at hgd
      have := Array.all_eq_true_iff_forall_mem.1 hgd o (Array.mem_toList_iff.1 ho)
      exact Array.all_eq_true_iff_forall_mem.1 this y hy
    cases draw with
    | false => exact wp_region_list (aops_sound hn hs _ _ _ _ _ _ hgd' h φ w a hr hg he hd)
    | true => subst hd; exact hD call hs ops env σ x env1 σ1 hgd' h φ w a id hr hg he
  | seq c1 c2 ih1 ih2 =>
    intro env σ x env1 σ1 hgd h φ w a hr hg he hd
    simp only [codeGood, Bool.and_eq_true] at hgd
    unfold aexec at h
    cases hc : aexec P G n call c1 env σ with
    | none => rw [hc] at h; cases h
    | some r =>
      obtain ⟨x2, env2, σ2⟩ := r
      rw [hc] at h
      refine wp_seq (wp_mono (ih1 env σ x2 env2 σ2 hgd.1 hc φ w a hr hg he hd) fun E a1 w1 q => ?_)
      cases x2 with
      | normal =>
        obtain ⟨hd1, φ1, hf, hr1, q⟩ := q
        cases E <;> first | exact q.elim | skip
        exact wp_mono (ih2 env2 σ2 x env1 σ1 hgd.2 h φ1 w1 a1 hr1 (hg.frm hf) q hd1) fun E a2 w2 q => XRel.frm hf q
      | exit i =>
        obtain ⟨rfl, rfl, rfl⟩ := fin h
        cases E <;> first | exact q | (obtain ⟨_, _, _, _, q⟩ := q; exact q.elim)
      | ret =>
        obtain ⟨rfl, rfl, rfl⟩ := fin h
        cases E <;> first | exact q | (obtain ⟨_, _, _, _, q⟩ := q; exact q.elim)
      | panic v =>
        obtain ⟨rfl, rfl, rfl⟩ := fin h
        cases E <;> first | exact q | (obtain ⟨_, _, _, _, q⟩ := q; exact q.elim)
  | cond c0 c1 c2 ih1 ih2 =>
    intro env σ x env1 σ1 hgd h φ w a hr hg he hd
    simp only [codeGood, Bool.and_eq_true] at hgd
    unfold aexec at h
    split at h
    · rename_i t hc
      have := ev_rel hg he hgd.1.1
      rw [hc] at this
      have e := rv_bool this
      refine wp_cond e ?_
      cases t
      · exact ih2 env σ x env1 σ1 hgd.2 h φ w a hr hg he hd
      · exact ih1 env σ x env1 σ1 hgd.1.2 h φ w a hr hg he hd
    · cases h
  | block id c ih =>
    intro env σ x env1 σ1 hgd h φ w a hr hg he hd
    simp only [codeGood] at hgd
    unfold aexec at h
    cases hc : aexec P G n call c env σ with
    | none => rw [hc] at h; cases h
    | some r =>
      obtain ⟨x2, env2, σ2⟩ := r
      rw [hc] at h
      refine wp_block (wp_mono (ih env σ x2 env2 σ2 hgd hc φ w a hr hg he hd) fun E a1 w1 q => ?_)
      cases x2 with
      | exit i =>
        simp only at h
        cases E <;> first | (obtain ⟨_, _, _, _, q⟩ := q; exact q.elim) | skip
        rename_i j
        obtain ⟨hd1, φ1, hf, hr1, hij, q⟩ := q
        subst hij
        by_cases hi : i = id
        · subst hi
          rw [if_pos rfl] at h
          obtain ⟨rfl, rfl, rfl⟩ := fin h
          simp only [Exit.inBlock, if_true]
          exact ⟨hd1, φ1, hf, hr1, q⟩
        · rw [if_neg hi] at h
          obtain ⟨rfl, rfl, rfl⟩ := fin h
          simp only [Exit.inBlock, if_neg hi]
          exact ⟨hd1, φ1, hf, hr1, rfl, q⟩
      | normal =>
        obtain ⟨rfl, rfl, rfl⟩ := fin h
        cases E <;> first | exact q | (obtain ⟨_, _, _, _, q⟩ := q; exact q.elim)
      | ret =>
        obtain ⟨rfl, rfl, rfl⟩ := fin h
        cases E <;> first | exact q | (obtain ⟨_, _, _, _, q⟩ := q; exact q.elim)
      | panic v =>
        obtain ⟨rfl, rfl, rfl⟩ := fin h
        cases E <;> first | exact q | (obtain ⟨_, _, _, _, q⟩ := q; exact q.elim)
  | loop c ih =>
    intro env σ x env1 σ1 hgd h φ w a hr hg he hd
    simp only [codeGood] at hgd
    obtain ⟨h1, h2⟩ := aloop_sound (c := c) (ds := ds) (fun env σ x env1 σ1 hc φ w a hr hg he hd => ih env σ x env1 σ1 hgd hc φ w a hr hg he hd) n env σ x env1 σ1 h
    exact wp_loop_rounds n (h2 φ w a hr hg he hd)
  | exit id =>
    intro env σ x env1 σ1 hgd h φ w a hr hg he hd
    obtain ⟨rfl, rfl, rfl⟩ := fin h
    exact wp_exit ⟨hd, φ, .refl _ _ _, hr, rfl, he⟩
  | ret =>
    intro env σ x env1 σ1 hgd h φ w a hr hg he hd
    obtain ⟨rfl, rfl, rfl⟩ := fin h
    exact wp_ret ⟨hd, φ, .refl _ _ _, hr, he⟩
  | rangeFunc f ps c1 c2 _ _ => intro env σ x env1 σ1 hgd h; cases h
  | scope c _ => intro env σ x env1 σ1 hgd h; cases h
  | label l => intro env σ x env1 σ1 hgd h; cases h
  | goto l => intro env σ x env1 σ1 hgd h; cases h
  | refuse s => intro env σ x env1 σ1 hgd h; cases h
end
end Go.AM
namespace Go.AM
open Go

/-! Operations that change nothing. -/
def Reads (c : Bool) {α : Type} : Sem α → Prop
  | .pure _ => True
  | .load _ _ k => ∀ v, Reads c (k v)
  | .getObj _ k => ∀ v, Reads c (k v)
  | .shape _ k => ∀ v, Reads c (k v)
  | .frozen _ k => ∀ v, Reads c (k v)
  | .program k => ∀ p, Reads c (k p)
  | .mark _ k => Reads c k
  | .choose _ k => c = true ∧ ∀ n, Reads c (k n)
  | .halt _ => True
  | _ => False
theorem reads_bind {c : Bool} {α β : Type} {s : Sem α} {f : α → Sem β} (h : Reads c s) (hf : ∀ a, Reads c (f a)) : Reads c (s >>= f) := by
  show Reads c (s.bind f)
  induction s with
  | pure a => exact hf a
  | load m a k ih => exact fun v => ih v (h v)
  | getObj r k ih => exact fun v => ih v (h v)
  | shape r k ih => exact fun v => ih v (h v)
  | frozen r k ih => exact fun v => ih v (h v)
  | program k ih => exact fun p => ih p (h p)
  | mark m k ih => exact ih h
  | choose q k ih => exact ⟨h.1, fun n => ih n (h.2 n)⟩
  | halt x => trivial
  | _ => exact h.elim
theorem reads_quiet {α : Type} {s : Sem α} (h : Quiet s) : Reads true s := by
  induction s with
  | pure a => trivial
  | program k ih => exact fun p => ih p (h p)
  | mark m k ih => exact ih h
  | choose q k ih => exact ⟨rfl, fun n => ih n (h n)⟩
  | halt x => trivial
  | _ => exact h.elim
theorem reads_weak {c : Bool} {α : Type} {s : Sem α} (h : Reads c s) : Reads true s := by
  induction s with
  | pure a => trivial
  | load m a k ih => exact fun v => ih v (h v)
  | getObj r k ih => exact fun v => ih v (h v)
  | shape r k ih => exact fun v => ih v (h v)
  | frozen r k ih => exact fun v => ih v (h v)
  | program k ih => exact fun p => ih p (h p)
  | mark m k ih => exact ih h
  | choose q k ih => exact ⟨rfl, fun n => ih n (h.2 n)⟩
  | halt x => trivial
  | _ => exact h.elim
theorem reads_abs {c : Bool} {P : Program} {α : Type} {s : Sem α} (h : Reads c s) {σ σ1 : St} {a : α} (ha : arun P s σ = some (a, σ1)) : σ1 = σ := by
  induction s with
  | pure a => injection ha with ha; injection ha with h1 h2; exact h2.symm
  | load m a k ih =>
    simp only [arun] at ha
    split at ha
    · exact ih _ (h _) ha
    · cases ha
  | getObj r k ih =>
    simp only [arun] at ha
    split at ha
    · exact ih _ (h _) ha
    · cases ha
  | shape r k ih => cases ha
  | frozen r k ih => cases ha
  | program k ih => exact ih _ (h _) ha
  | mark m k ih => exact ih h ha
  | choose q k ih =>
    simp only [arun] at ha
    split at ha
    · exact ih _ (h.2 _) ha
    · cases ha
  | halt x => cases ha
  | _ => exact h.elim
theorem reads_real {P : Program} {α : Type} {s : Sem α} (h : Reads true s) : ∀ {w w1 : World} {a : α}, s.run P w = .ok a w1 → ∃ d, w1 = { w with drawn := d } := by
  induction s with
  | pure a => intro w w1 b hb; cases hb; exact ⟨w.drawn, rfl⟩
  | load m a k ih =>
    intro w w1 b hb
    simp only [Sem.run] at hb
    split at hb
    · exact ih _ (h _) hb
    · split at hb
      · exact ih _ (h _) hb
      · cases hb
  | getObj r k ih =>
    intro w w1 b hb
    simp only [Sem.run] at hb
    split at hb
    · cases hb
    · exact ih _ (h _) hb
    · cases hb
  | shape r k ih => intro w w1 b hb; exact ih _ (h _) hb
  | frozen r k ih => intro w w1 b hb; exact ih _ (h _) hb
  | program k ih => intro w w1 b hb; exact ih _ (h _) hb
  | mark m k ih => intro w w1 b hb; exact ih h hb
  | choose q k ih =>
    intro w w1 b hb
    simp only [Sem.run] at hb
    split at hb
    · exact ih _ (h.2 _) hb
    · obtain ⟨d, hd⟩ := ih _ (h.2 _) hb
      exact ⟨d, hd⟩
  | halt x => intro w w1 b hb; cases hb
  | _ => exact h.elim
theorem reads_strict {P : Program} {α : Type} {s : Sem α} (h : Reads false s) : ∀ {w w1 : World} {a : α}, s.run P w = .ok a w1 → w1 = w := by
  induction s with
  | pure a => intro w w1 b hb; cases hb; rfl
  | load m a k ih =>
    intro w w1 b hb
    simp only [Sem.run] at hb
    split at hb
    · exact ih _ (h _) hb
    · split at hb
      · exact ih _ (h _) hb
      · cases hb
  | getObj r k ih =>
    intro w w1 b hb
    simp only [Sem.run] at hb
    split at hb
    · cases hb
    · exact ih _ (h _) hb
    · cases hb
  | shape r k ih => intro w w1 b hb; exact ih _ (h _) hb
  | frozen r k ih => intro w w1 b hb; exact ih _ (h _) hb
  | program k ih => intro w w1 b hb; exact ih _ (h _) hb
  | mark m k ih => intro w w1 b hb; exact ih h hb
  | choose q k ih => exact absurd h.1 (by simp)
  | halt x => intro w w1 b hb; cases hb
  | _ => exact h.elim

section
variable {c : Bool} {α : Type}
theorem reads_pure (a : α) : Reads c (pure a : Sem α) := trivial
theorem reads_stuck (s : String) : Reads c (stuck s : Sem α) := trivial
theorem reads_unsup (u : Unsupported) : Reads c (unsupported u : Sem α) := trivial
theorem reads_prog : Reads c program := fun _ => trivial
theorem reads_und (t : TypeId) : Reads c (underlying t) := by
  unfold underlying
  refine reads_bind reads_prog fun p => ?_
  split <;> trivial
theorem reads_info (t : TypeId) : Reads c (typeInfo t) := by
  unfold typeInfo
  refine reads_bind reads_prog fun p => ?_
  split <;> trivial
theorem reads_load (a : Addr) (m : Mode) : Reads c (load a m) := fun _ => trivial
theorem reads_getObj (r : Nat) : Reads c (getObj r) := fun _ => trivial
theorem reads_asAddr (v : Value) : Reads true (asAddr v) := by unfold asAddr; split <;> first | trivial | exact reads_quiet (quiet_panicErr _)
theorem reads_size (t : TypeId) : Reads c (sizeOf t) := reads_bind (reads_info t) fun _ => trivial
theorem reads_isAgg (t : TypeId) : Reads c (isAgg t) := by
  unfold isAgg
  refine reads_bind (reads_und t) fun d => ?_
  split <;> trivial
theorem reads_cellsFrom (a : Addr) : ∀ (k i : Nat) (acc : Array Value), Reads c (loadCellsFrom a i k acc)
  | 0, _, _ => trivial
  | k + 1, i, acc => reads_bind (reads_load _ _) fun v => reads_cellsFrom a k (i + 1) (acc.push v)
theorem reads_loadVar (t : TypeId) (a : Addr) : Reads c (loadVar t a) := by
  unfold loadVar
  refine reads_bind (reads_isAgg t) fun b => ?_
  split
  · exact reads_bind (reads_size t) fun n => reads_bind (reads_cellsFrom a n 0 #[]) fun _ => trivial
  · exact reads_load _ _
end

section
variable {P : Program} {G : Cfg} {φ : PMap} {σ : St} {w : World}

theorem results_sound (hr : RH P φ σ w) {env : List Value} {tmps : Array Value} (he : RVl φ σ.n env tmps.toList) : ∀ (rs : List ResultVar) (l : List Value), aresults P env σ rs = some l →
    ∃ l', ((rs.mapM fun (r : ResultVar) => match r with | .tmp t => (pure (tmps.getD t undef) : Sem Value) | .cell a t => do loadVar t (← asAddr (tmps.getD a undef))).run P w) = .ok l' w ∧ RVl φ σ.n l l' := by
  intro rs
  induction rs with
  | nil =>
    intro l h
    injection h with h
    subst h
    exact ⟨[], rfl, .nil⟩
  | cons r rs ih =>
    intro l h
    unfold aresults at h
    split at h
    · rename_i v vs h1 h2
      injection h with h
      subst h
      obtain ⟨l', h3, h4⟩ := ih vs h2
      have : ∃ v', ((match r with | .tmp t => (pure (tmps.getD t undef) : Sem Value) | .cell a t => do loadVar t (← asAddr (tmps.getD a undef)) : Sem Value).run P w) = .ok v' w ∧ RV φ σ.n v v' := by
        cases r with
        | tmp t =>
          injection h1 with h1
          subst h1
          exact ⟨_, rfl, rvl_getD he t⟩
        | cell a t =>
          simp only [aresult] at h1
          split at h1
          · rename_i b hb
            rw [Option.map_eq_some_iff] at h1
            obtain ⟨⟨v1, σ1⟩, h5, h6⟩ := h1
            simp only at h6
            subst h6
            have ha := rvl_getD he a
            rw [hb] at ha
            show ∃ v', ((do loadVar t (← asAddr (tmps.getD a undef)) : Sem Value).run P w) = .ok v' w ∧ RV φ σ.n v1 v'
            generalize tmps.getD a undef = z at ha ⊢
            cases ha with
            | ptr hh o hn hs =>
              obtain ⟨φ1, w1, v', h7, h8, h9, h10⟩ := sim_loadVar hr t ⟨hh, o, hn, hs, rfl, rfl⟩ v1 σ1 h5
              have e1 := reads_strict (reads_loadVar t _) h7
              have e2 := reads_abs (c := false) (reads_loadVar t _) h5
              subst e1 e2
              refine ⟨v', h7, h10.mono (fun k hk => ?_) (Nat.le_refl _)⟩
              obtain ⟨a, b, c⟩ := h8.ext k hk
              exact ⟨a.symm, b.symm, c.symm⟩
          · cases h1
      obtain ⟨v', h5, h6⟩ := this
      refine ⟨v' :: l', ?_, .cons h6 h4⟩
      rw [List.mapM_cons, Sem.run_bind, h5, Result.andThen_ok, Sem.run_bind, h3]
      rfl
    · cases h
theorem tup_sound {n : Nat} {l l' : List Value} (h : RVl φ n l l') : RV φ n (tup l) (if h : l'.toArray.size = 1 then l'.toArray[0] else .tuple l'.toArray) := by
  match h with
  | .nil => exact .tuple .nil
  | .cons hv .nil => exact hv
  | .cons h1 (.cons h2 h3) =>
    rename_i v v' w w' m m'
    rw [dif_neg (by simp)]
    exact .tuple (.cons h1 (.cons h2 h3))
theorem result_run (hr : RH P φ σ w) {fn : Func} {env : List Value} {tmps : Array Value} (he : RVl φ σ.n env tmps.toList) {l : List Value} (h : aresults P env σ fn.results.toList = some l) :
    ∃ v', (results fn tmps).run P w = .ok v' w ∧ RV φ σ.n (tup l) v' := by
  obtain ⟨l', h1, h2⟩ := results_sound hr he _ _ h
  refine ⟨_, ?_, tup_sound h2⟩
  unfold results
  rw [Sem.run_bind, Array.mapM_eq_mapM_toList, map_eq_pure_bind, Sem.run_bind]
  erw [h1]
  rfl

def codesGood (P : Program) (G : Cfg) : Prop := ∀ (f : FuncId) (fn : Func) (c : Code), G.ok f = true → P.funcs[f]? = some fn → fn.body = some c → codeGood G c = true
def HookSound (P : Program) (G : Cfg) : Prop := Sound P G fun f args σ => if G.hooked f then G.hook f args σ else none

theorem rvl_undefs {n : Nat} (k : Nat) : RVl φ n (List.replicate k undef) (List.replicate k undef) := by
  induction k with
  | zero => exact .nil
  | succ k ih => exact .cons .undef_ ih

theorem acall_sound (hn : namesOk P) (hD : DrawSound P G) (hH : HookSound P G) (hC : codesGood P G) : ∀ n, Sound P G (acall P G n) := by
  intro n
  induction n with
  | zero => intro f args σ e σ1 h; cases h
  | succ n ih =>
    intro f args σ e σ1 h φ w args' hr hg ha
    unfold acall at h
    by_cases hh : G.hooked f = true
    · rw [if_pos hh] at h
      exact hH f args σ e σ1 (by simp only [hh, if_true]; exact h) φ w args' hr hg ha
    · rw [if_neg hh] at h
      split at h
      case isFalse => cases h
      rename_i hok
      split at h
      case h_2 => cases h
      rename_i fn hf
      unfold abody at h
      cases hb : fn.body with
      | none => rw [hb] at h; cases h
      | some c =>
        rw [hb] at h
        simp only at h
        refine calls_of_wp hf hb ?_
        have he : RVl φ σ.n (args ++ List.replicate (fn.ntmps - args.length) undef) (args' ++ Array.replicate (fn.ntmps - args'.size) undef).toList := by
          have : args'.size = args.length := by rw [← Array.length_toList, ha.length]
          rw [Array.toList_append, Array.toList_replicate, this]
          exact ha.append (rvl_undefs _)
        split at h
        · rename_i env σ2 hx
          rw [Option.map_eq_some_iff] at h
          obtain ⟨l, h1, h2⟩ := h
          injection h2 with h2 h3
          subst h2 h3
          refine wp_mono (aexec_sound hn hD (n + 1) ih [] c _ σ _ _ _ (hC f fn c hok hf hb) hx φ w _ hr hg he rfl) fun E a1 w1 q => ?_
          obtain ⟨hd, φ1, hfr, hr1, q⟩ := q
          cases E <;> first | exact q.elim | skip
          obtain ⟨v', h4, h5⟩ := result_run hr1 q h1
          exact ⟨hd, v', h4, φ1, hfr, hr1, h5⟩
        · rename_i env σ2 hx
          rw [Option.map_eq_some_iff] at h
          obtain ⟨l, h1, h2⟩ := h
          injection h2 with h2 h3
          subst h2 h3
          refine wp_mono (aexec_sound hn hD (n + 1) ih [] c _ σ _ _ _ (hC f fn c hok hf hb) hx φ w _ hr hg he rfl) fun E a1 w1 q => ?_
          obtain ⟨hd, φ1, hfr, hr1, q⟩ := q
          cases E <;> first | exact q.elim | skip
          obtain ⟨v', h4, h5⟩ := result_run hr1 q h1
          exact ⟨hd, v', h4, φ1, hfr, hr1, h5⟩
        · rename_i v env σ2 hx
          injection h with h
          injection h with h2 h3
          subst h2 h3
          refine wp_mono (aexec_sound hn hD (n + 1) ih [] c _ σ _ _ _ (hC f fn c hok hf hb) hx φ w _ hr hg he rfl) fun E a1 w1 q => ?_
          obtain ⟨hd, φ1, hfr, hr1, q⟩ := q
          cases E <;> first | exact q.elim | skip
          exact ⟨hd, φ1, hfr, hr1, q⟩
        · cases h
end
end Go.AM
namespace Go.AM
open Go

/-! Regions whose order is drawn: the operations that change nothing. -/
section
variable {α : Type}
theorem reads_bounds (k : IntKind) (x y : Int) (c : BoundsCode) : Reads true (boundsPanic k x y c : Sem α) := by
  unfold boundsPanic
  dsimp only
  split
  · exact reads_bind (by rw [map_eq_pure_bind]; exact reads_bind ⟨rfl, fun _ => trivial⟩ fun _ => trivial) fun _ => fun _ => trivial
  · exact reads_bind trivial fun _ => fun _ => trivial
theorem reads_sure (v : Value) : Reads true (Instr.sureAddr v) := by unfold Instr.sureAddr; split <;> trivial
theorem reads_asIntOf (v : Value) : Reads true (asIntOf v) := reads_quiet (quiet_asInt v)
theorem reads_asInt (v : Value) : Reads true (asInt v) := reads_bind (reads_asIntOf v) fun _ => trivial
theorem reads_asAgg (v : Value) : Reads true (asAgg v) := by unfold asAgg; split <;> trivial
theorem reads_part (t : TypeId) (cs : Array Value) (o : Nat) : Reads true (part t cs o) := by
  unfold part
  refine reads_bind (reads_isAgg t) fun b => ?_
  split
  · exact reads_bind (reads_size t) fun _ => trivial
  · split <;> trivial
theorem reads_zero (t : TypeId) : Reads true (zeroValue t) := by
  unfold zeroValue
  refine reads_bind (reads_info t) fun i => ?_
  split <;> trivial
theorem reads_mapM {β : Type} {f : β → Sem α} (hf : ∀ a, Reads true (f a)) : ∀ l : List β, Reads true (l.mapM f) := by
  intro l
  induction l with
  | nil => trivial
  | cons x l ih =>
    rw [List.mapM_cons]
    exact reads_bind (hf x) fun _ => reads_bind ih fun _ => trivial
theorem reads_mapMA {β : Type} {f : β → Sem α} (hf : ∀ a, Reads true (f a)) (l : Array β) : Reads true (l.mapM f) := by
  rw [Array.mapM_eq_mapM_toList, map_eq_pure_bind]
  exact reads_bind (reads_mapM hf _) fun _ => trivial
theorem reads_forL {β γ : Type} {f : β → γ → Sem (ForInStep γ)} (hf : ∀ a b, Reads true (f a b)) : ∀ (l : List β) (b : γ), Reads true (forIn l b f) := by
  intro l
  induction l with
  | nil => intro b; simp only [List.forIn_nil]; trivial
  | cons x l ih =>
    intro b
    simp only [List.forIn_cons]
    refine reads_bind (hf x b) fun s => ?_
    split
    · trivial
    · exact ih _

theorem reads_loadAt (t : TypeId) (v : Value) : Reads true (Instr.loadAt t v) := reads_bind (reads_sure v) fun a => reads_loadVar t a
theorem reads_view (r : Nat) : Reads true (viewAt r) := by
  unfold viewAt
  refine reads_bind (fun _ => trivial) fun o => ?_
  split
  · trivial
  · refine reads_bind (reads_getObj _) fun o => ?_
    split <;> trivial
theorem reads_byteOf (a : Addr) : Reads true (byteOf a) := by
  unfold byteOf
  split
  · trivial
  · refine reads_bind reads_prog fun p => reads_bind ?_ fun _ => reads_bind (fun _ => trivial) fun o => ?_
    · unfold noView
      refine reads_bind (reads_view _) fun o => ?_
      split <;> trivial
    · dsimp only
      (repeat' split) <;> trivial
theorem reads_place (a : Addr) (f : Field) : Reads true (fieldPlace a f) := by
  unfold fieldPlace
  refine reads_bind (reads_size _) fun n => ?_
  split
  · unfold partAt
    exact reads_bind (reads_byteOf _) fun _ => reads_bind (reads_byteOf _) fun _ => trivial
  · trivial
theorem reads_fieldAt (t : TypeId) (v : Value) (k : Nat) : Reads true (Instr.fieldAt t v k) := by
  unfold Instr.fieldAt
  refine reads_bind (reads_und t) fun d => ?_
  split
  · split
    · exact reads_bind (reads_sure v) fun a => reads_bind (reads_place a _) fun _ => trivial
    · trivial
  · trivial
theorem reads_field (t : TypeId) (v : Value) (k : Nat) : Reads true (Instr.field t v k) := by
  unfold Instr.field
  refine reads_bind (reads_und t) fun d => ?_
  split
  · split
    · exact reads_bind (reads_asAgg v) fun a => reads_part _ _ _
    · trivial
  · trivial
theorem reads_indexAt (t : TypeId) (v i : Value) : Reads true (Instr.indexAt t v i) := by
  unfold Instr.indexAt
  refine reads_bind (reads_asIntOf i) fun k => reads_bind (reads_und t) fun d => ?_
  dsimp only
  have h : ∀ x : Option Addr × Nat × TypeId, Reads true (match x with
      | (base, len, elem) => do
        let tiny := len ≤ 1 && (match ← underlying t with | .array .. => true | _ => false)
        match base with
        | some a =>
          if 0 ≤ k.2 ∧ k.2 < len then pure (.pointer (some (a.add (k.2.toNat * (← sizeOf elem)))))
          else if tiny then unsupported (.noEntry "op/indexAddr.an index out of range at an array of length 0 or 1 (ledger 616)")
          else boundsPanic k.1 k.2 len .index
        | none => boundsPanic k.1 k.2 0 .index : Sem Value) := by
    rintro ⟨base, len, elem⟩
    refine reads_bind (reads_und t) fun d => ?_
    dsimp only
    (repeat' split) <;> first | trivial | exact reads_bounds _ _ _ _ | exact reads_bind (reads_size _) fun _ => reads_pure _
  split
  · exact reads_bind (reads_sure v) fun a => reads_bind (reads_pure _) fun x => h x
  · exact reads_bind (reads_pure _) fun x => h x
  · exact reads_bind (reads_stuck _) fun x => h x
theorem reads_index (t : TypeId) (v i : Value) : Reads true (Instr.index t v i) := by
  unfold Instr.index
  refine reads_bind (reads_asIntOf i) fun k => reads_bind (reads_und t) fun d => ?_
  split
  · split
    · exact reads_bind (reads_size _) fun _ => reads_part _ _ _
    · exact reads_bounds _ _ _ _
  · split
    · trivial
    · exact reads_bounds _ _ _ _
  · trivial
theorem reads_extract (v : Value) (k : Nat) : Reads true (Instr.extract v k) := by
  unfold Instr.extract
  split
  · split <;> trivial
  · trivial
theorem reads_build (t : TypeId) (ps : Array (Nat × Value)) : Reads true (Instr.build t ps) := by
  unfold Instr.build
  refine reads_bind (reads_zero t) fun z => reads_bind (reads_und t) fun d => ?_
  split
  · refine reads_bind (reads_mapMA (fun f => reads_bind (reads_size _) fun _ => reads_pure _) _) fun p => ?_
    split <;> trivial
  · refine reads_bind (reads_size _) fun p => ?_
    split <;> trivial
  · trivial
theorem reads_makeInterface (t : TypeId) (v : Value) : Reads true (Instr.makeInterface t v) := by
  unfold Instr.makeInterface
  refine reads_bind (reads_und t) fun d => ?_
  split <;> trivial
theorem reads_bound (v : Value) (y : Nat) (c : BoundsCode) : Reads true (Instr.sliceBound v y c) := by
  unfold Instr.sliceBound
  refine reads_bind (reads_asIntOf v) fun k => ?_
  dsimp only
  split
  · trivial
  · exact reads_bounds _ _ _ _
theorem reads_bounds3 (b : Bool) (l c : Nat) (lo hi mx : Option Value) : Reads true (Instr.sliceBounds b l c lo hi mx) := by
  unfold Instr.sliceBounds
  dsimp only
  cases mx <;> cases hi <;> cases lo <;> dsimp only <;> first
    | trivial
    | exact reads_bind (reads_bound _ _ _) fun _ => reads_bind (reads_bound _ _ _) fun _ => reads_bind (reads_bound _ _ _) fun _ => reads_pure _
    | exact reads_bind (reads_bound _ _ _) fun _ => reads_bind (reads_bound _ _ _) fun _ => reads_pure _
    | exact reads_bind (reads_bound _ _ _) fun _ => reads_bind (reads_bound _ _ _) fun _ => reads_bind (reads_pure _) fun _ => reads_pure _
    | (simp only [pure_bind, Option.isSome]; (repeat' split) <;> first | trivial | exact reads_bound _ _ _ | exact reads_bind (reads_bound _ _ _) fun _ => reads_pure _ | exact reads_bind (reads_bound _ _ _) fun _ => reads_bind (reads_bound _ _ _) fun _ => reads_pure _ | exact reads_bind (reads_bound _ _ _) fun _ => reads_bind (reads_stuck _) fun _ => reads_pure _ | exact reads_bind (reads_bound _ _ _) fun _ => reads_bind (reads_stuck _) fun _ => reads_bind (reads_bound _ _ _) fun _ => reads_pure _ )
theorem reads_slice (t : TypeId) (v : Value) (lo hi mx : Option Value) : Reads true (Instr.slice t v lo hi mx) := by
  unfold Instr.slice
  refine reads_bind (reads_und t) fun d => ?_
  split
  · split
    · trivial
    · exact reads_bind (reads_bounds3 _ _ _ _ _ _) fun _ => trivial
  · exact reads_bind (reads_bounds3 _ _ _ _ _ _) fun _ => reads_bind (reads_size _) fun _ => trivial
  · refine reads_bind (reads_asAddr _) fun a => reads_bind (reads_und _) fun d => ?_
    split
    · exact reads_bind (reads_bounds3 _ _ _ _ _ _) fun _ => reads_bind (reads_size _) fun _ => trivial
    · trivial
  · trivial
theorem reads_sliceAt (t : TypeId) (v : Value) (lo hi mx : Option Value) : Reads true (Instr.sliceAt t v lo hi mx) := by
  unfold Instr.sliceAt
  refine reads_bind (reads_und t) fun d => ?_
  split
  · exact reads_bind (reads_sure _) fun a => reads_bind (reads_bounds3 _ _ _ _ _ _) fun _ => reads_bind (reads_size _) fun _ => trivial
  · exact reads_slice _ _ _ _ _
theorem reads_len (ts : Array TypeId) (t : TypeId) (v : Value) : Reads true (Builtin.len_ ts t #[v]) := by
  unfold Builtin.len_
  split
  · refine reads_bind (reads_und _) fun d => ?_
    split <;> first
      | trivial
      | (refine reads_bind (reads_und _) fun d => ?_; split <;> trivial)
      | (refine reads_bind (reads_getObj _) fun d => ?_; split <;> trivial)
  · trivial
theorem reads_bytes (v : Value) : Reads true (Conv.bytesToString v) := by
  unfold Conv.bytesToString
  split
  · trivial
  · refine reads_bind (reads_cellsFrom _ _ _ _) fun a => reads_bind ?_ fun _ => trivial
    rw [← Array.forIn_toList]
    refine reads_forL (fun v b => ?_) _ _
    split <;> trivial
  · trivial
end
end Go.AM
namespace Go.AM
open Go

/-! Equality changes nothing. -/
theorem reads_ite {c : Prop} [Decidable c] {α : Type} {a b : Sem α} (ha : Reads true a) (hb : Reads true b) : Reads true (if c then a else b) := by split <;> assumption
theorem reads_numberAt (r : Nat) : Reads true (numberAt r) := by
  unfold numberAt
  refine reads_bind (fun _ => trivial) fun o => reads_ite trivial (reads_bind (reads_getObj _) fun o => ?_)
  split <;> trivial
theorem reads_behind (a : Addr) : Reads true (behindNumber a) := by
  unfold behindNumber
  exact reads_bind (reads_numberAt _) fun _ => trivial
theorem reads_noView (a : Addr) : Reads true (noView a) := by
  unfold noView
  exact reads_bind (reads_view _) fun o => reads_ite trivial trivial
theorem reads_shape (r : Nat) : Reads true (shape r) := fun _ => trivial
theorem reads_frozen (a : Addr) : Reads true (frozen a) := fun _ => trivial
theorem reads_choose (q : Question) : Reads true (choose q) := ⟨rfl, fun _ => trivial⟩
theorem reads_stringish (a : Addr) : Reads true (stringish a) := by
  unfold stringish
  refine reads_bind (reads_frozen _) fun o => reads_ite trivial (reads_bind (reads_shape _) fun o => ?_)
  split
  · exact reads_frozen _
  · trivial
theorem reads_mayBeOne (a b : Addr) : Reads true (mayBeOne a b) := by
  unfold mayBeOne
  refine reads_bind (reads_stringish _) fun x => reads_bind (reads_stringish _) fun y => ?_
  exact reads_bind (reads_bind (reads_shape _) fun _ => reads_pure _) fun _ => reads_bind (reads_bind (reads_shape _) fun _ => reads_pure _) fun _ => reads_pure _
theorem reads_sameAddr (a b : Addr) : Reads true (sameAddr a b) := by
  unfold sameAddr
  refine reads_ite trivial (reads_bind (reads_frozen _) fun x => ?_)
  have hend : Reads true (do
      noView a
      noView b
      if ← mayBeOne a b then return (← choose (.extern "sameAddr.stringBytes" 2)) == 1
      pure false : Sem Bool) :=
    reads_bind (reads_noView _) fun _ => reads_bind (reads_noView _) fun _ => reads_bind (reads_mayBeOne _ _) fun _ => reads_ite (reads_bind (reads_choose _) fun _ => reads_pure _) (reads_pure _)
  refine reads_bind (reads_frozen _) fun y => ?_
  dsimp only
  exact reads_ite (reads_bind (reads_unsup _) fun _ => hend) hend
theorem reads_samePointer (a b : Option Addr) : Reads true (samePointer a b) := by
  unfold samePointer
  split
  · exact reads_sameAddr _ _
  · trivial
theorem reads_equalIn : ∀ (d : Nat) (t : TypeId) (x y : Value), Reads true (Op.equalIn d t x y) := by
  intro d
  induction d with
  | zero => intro t x y; trivial
  | succ d ih =>
    intro t x y
    unfold Op.equalIn
    refine reads_bind (reads_und t) fun u => ?_
    split <;> first | trivial | exact reads_ite trivial trivial | exact reads_samePointer _ _ | exact reads_bind (reads_size _) fun _ => reads_ite (reads_sameAddr _ _) (reads_ite (reads_pure _) (reads_bind (reads_choose _) fun _ => reads_pure _)) | skip
    · refine reads_bind (reads_behind _) fun x => reads_bind (reads_behind _) fun y => ?_
      dsimp only
      have hj : ∀ (p q : Addr), Reads true (do
          let .named "sync.copyChecker" _ := (← typeInfo t).desc | unsupported .addressObserved
          if p == q then pure true else unsupported .addressObserved : Sem Bool) := by
        intro p q
        refine reads_bind (reads_info _) fun i => ?_
        split
        · exact reads_ite trivial trivial
        · trivial
      have hj2 : ∀ (p q : Addr), Reads true (do return (← byteOf p) == (← byteOf q) : Sem Bool) := fun p q => reads_bind (reads_byteOf _) fun _ => reads_bind (reads_byteOf _) fun _ => reads_pure _
      exact reads_bind reads_prog fun p => reads_ite (hj2 _ _) (hj _ _)
    · refine reads_ite (reads_pure _) (reads_bind (reads_info _) fun i => reads_ite (reads_bind reads_prog fun p => reads_bind reads_prog fun p2 => ?_) (ih _ _ _))
      have hp : ∀ tx : TypeId, Reads true (do runtimePanic (.error ("comparing uncomparable type " ++ (← typeStr tx))) : Sem Bool) := by
        intro tx
        refine reads_bind ?_ fun s => reads_quiet (quiet_panicErr _)
        unfold typeStr
        exact reads_bind (reads_info _) fun i => reads_ite trivial trivial
      dsimp only
      exact reads_ite (reads_bind (reads_unsup _) fun _ => hp _) (hp _)
    · refine reads_bind reads_prog fun p => reads_ite trivial (reads_bind ?_ fun r => ?_)
      · rw [← Array.forIn_toList]
        refine reads_forL (fun f b => ?_) _ _
        refine reads_ite (reads_bind (reads_part _ _ _) fun _ => reads_bind (reads_part _ _ _) fun _ => reads_bind (ih _ _ _) fun _ => reads_ite trivial trivial) trivial
      · dsimp only
        split <;> trivial
    · refine reads_bind (reads_size _) fun n => reads_bind ?_ fun r => ?_
      · rw [Std.Legacy.Range.forIn_eq_forIn_range']
        refine reads_forL (fun f b => ?_) _ _
        exact reads_bind (reads_part _ _ _) fun _ => reads_bind (reads_part _ _ _) fun _ => reads_bind (ih _ _ _) fun _ => reads_ite trivial trivial
      · dsimp only
        split <;> trivial
theorem reads_guardIn : ∀ (d : Nat) (t : TypeId) (x y : Value), Reads true (Op.eqGuardIn d t x y) := by
  intro d
  induction d with
  | zero => intro t x y; trivial
  | succ d ih =>
    intro t x y
    unfold Op.eqGuardIn
    refine reads_bind (reads_und t) fun u => ?_
    split <;> first | trivial | skip
    · refine reads_bind ?_ fun r => ?_
      · rw [← Array.forIn_toList]
        refine reads_forL (fun f b => ?_) _ _
        exact reads_ite (reads_bind (reads_part _ _ _) fun _ => reads_bind (reads_part _ _ _) fun _ => reads_bind (ih _ _ _) fun _ => reads_ite trivial trivial) trivial
      · dsimp only
        split <;> trivial
    · refine reads_bind (reads_size _) fun n => reads_bind ?_ fun r => ?_
      · rw [Std.Legacy.Range.forIn_eq_forIn_range']
        refine reads_forL (fun f b => ?_) _ _
        exact reads_bind (reads_part _ _ _) fun _ => reads_bind (reads_part _ _ _) fun _ => reads_bind (ih _ _ _) fun _ => reads_ite trivial trivial
      · dsimp only
        split <;> trivial
theorem reads_guard (op : BinOp) (t : TypeId) (xo yo : Operand) (x y : Value) : Reads true (eqGuard op t xo yo x y) := by
  unfold eqGuard
  refine reads_ite trivial ?_
  split
  · exact reads_ite trivial (reads_bind (reads_guardIn _ _ _ _) fun _ => reads_ite trivial trivial)
  · exact reads_bind reads_prog fun _ => reads_bind reads_prog fun _ => reads_ite trivial (reads_bind (reads_guardIn _ _ _ _) fun _ => reads_ite trivial trivial)
  · trivial
theorem reads_checkKey (b : Bool) (n : Nat) (t : TypeId) {i : Value} (h : keyOk i = true) : Reads true (Instr.checkKey b n t i) := by
  cases n with
  | zero => trivial
  | succ n =>
    unfold Instr.checkKey
    refine reads_bind (reads_und _) fun d => ?_
    cases i <;> simp only [keyOk, Bool.false_eq_true] at h <;> cases d <;> trivial
theorem reads_findAsking (t : TypeId) (k : Value) : ∀ (es : List MapEntry) (i : Nat), Reads true (Instr.findAsking t k es i) := by
  intro es
  induction es with
  | nil => intro i; trivial
  | cons e es ih =>
    intro i
    unfold Instr.findAsking
    refine reads_bind (reads_equalIn _ _ _ _) fun b => ?_
    split
    · trivial
    · exact ih _
theorem reads_findKey (t : TypeId) (k : Value) (es : List MapEntry) : Reads true (Instr.findKey t k es) := by
  unfold Instr.findKey
  refine reads_bind (reads_und _) fun d => ?_
  split
  · trivial
  · exact reads_findAsking _ _ _ _
theorem reads_lookup (t : TypeId) (x i : Value) (ok : Bool) (h : keyOk i = true) : Reads true (Instr.lookup t x i ok) := by
  unfold Instr.lookup
  refine reads_bind (reads_und _) fun d => ?_
  cases d <;> first | trivial | skip
  dsimp only
  split
  · refine reads_bind (reads_pure _) fun es => reads_bind (reads_checkKey _ _ _ h) fun _ => reads_bind (reads_findKey _ _ _) fun r => ?_
    split
    · trivial
    · exact reads_bind (reads_zero _) fun _ => trivial
  · refine reads_bind (reads_getObj _) fun o => ?_
    split
    · refine reads_bind (reads_pure _) fun es => reads_bind (reads_checkKey _ _ _ h) fun _ => reads_bind (reads_findKey _ _ _) fun r => ?_
      split
      · trivial
      · exact reads_bind (reads_zero _) fun _ => trivial
    · trivial
  · trivial
end Go.AM
namespace Go.AM
open Go

def simpleBin : Value → Value → Bool
  | .int .., .int .. | .string _, .string _ | .bool _, .bool _ | .slice .., .slice .. | .map _, .map _ | .pointer _, .pointer _ | .agg _, .agg _ | .iface .., .iface .. | .iface .., .nilIface | .nilIface, .iface .. | .func .., .nilFunc => true
  | _, _ => false

def uOk (P : Program) (ρ : Operand → Value) : Op → Bool
  | .move _ | .assign _ | .pick .. | .load .. | .nilCheck _ | .unOp .. | .makeInterface .. | .fieldAddr .. | .field .. | .indexAddr .. | .index .. | .extract .. | .build .. | .makeFunc .. => true
  | .slice _ _ _ _ none => true
  | .binOp _ _ x y _ => simpleBin (ρ x) (ρ y)
  | .convert src dst x => convOk P src dst (ρ x)
  | .lookup t _ i _ => keyOk (ρ i) && mapChk P t
  | .call ⟨.builtin .len, _, _⟩ => true
  | .call ⟨.builtin .min, as, _⟩ => (as.map ρ).toList.all isInt
  | .call ⟨.builtin .max, as, _⟩ => (as.map ρ).toList.all isInt
  | _ => false

section
variable {P : Program} {φ : PMap} {σ : St} {w : World}

theorem reads_bin (op : BinOp) (t : TypeId) {x y : Value} (h : simpleBin x y = true) (hb : binOk op x y = true) : Reads true (binOp op t x y) := by
  cases x <;> cases y <;> simp only [simpleBin, Bool.false_eq_true] at h
  case int.int => exact reads_quiet (quiet_bin_int _ _ _ _ _ _)
  case string.string => exact reads_quiet (quiet_bin_str _ _ _ _)
  all_goals
    cases op <;> simp only [binOk, eqOp, Bool.false_eq_true] at hb
    all_goals
      simp only [binOp]
      exact reads_bind (reads_equalIn _ _ _ _) fun _ => reads_pure _
theorem arun_und {t : TypeId} {d : TypeDesc} (h : P.underlying t = some d) : arun P (underlying t) σ = some (d, σ) := by
  unfold underlying
  rw [arun_bind]
  show arun P (match P.underlying t with | some d => pure d | none => stuck "no such type") σ = _
  rw [h]
  rfl
theorem conv_reads {src dst : TypeId} {x : Value} (h : convOk P src dst x = true) :
    ∃ s, Reads true s ∧ (∀ σ, arun P (convert src dst x) σ = arun P s σ) ∧ ∀ w, (convert src dst x).run P w = s.run P w := by
  unfold convOk at h
  split at h
  · rename_i d1 k k1 n h1 h2
    refine ⟨Conv.intToInt k n, trivial, fun σ => ?_, fun w => ?_⟩
    · unfold convert
      rw [arun_bind, arun_und h1, Option.bind_some, arun_bind, arun_und h2, Option.bind_some]
    · unfold convert
      rw [Sem.run_bind, run_und h1, Result.andThen_ok, Sem.run_bind, run_und h2, Result.andThen_ok]
  · rename_i d1 b h1 h2
    refine ⟨pure (.string b), trivial, fun σ => ?_, fun w => ?_⟩
    · unfold convert
      rw [arun_bind, arun_und h1, Option.bind_some, arun_bind, arun_und h2, Option.bind_some]
    · unfold convert
      rw [Sem.run_bind, run_und h1, Result.andThen_ok, Sem.run_bind, run_und h2, Result.andThen_ok]
  · rename_i e a l c h1 h2
    split at h
    · rename_i h3
      refine ⟨Conv.bytesToString (.slice a l c), reads_bytes _, fun σ => ?_, fun w => ?_⟩
      · unfold convert
        rw [arun_bind, arun_und h1, Option.bind_some, arun_bind, arun_und h2, Option.bind_some]
        simp only
        rw [arun_bind, arun_und h3, Option.bind_some]
      · unfold convert
        rw [Sem.run_bind, run_und h1, Result.andThen_ok, Sem.run_bind, run_und h2, Result.andThen_ok]
        simp only
        rw [Sem.run_bind, run_und h3, Result.andThen_ok]
    · cases h
  · cases h

/-- One operation that changes nothing. -/
def UStep (P : Program) (φ : PMap) (σ : St) (w : World) (s : Sem Next) (r : ANext) (σ1 : St) : Prop :=
  ∃ v v' d, r = .value v ∧ σ1 = σ ∧ s.run P w = .ok (.value v') { w with drawn := d } ∧ RV φ σ.n v v'

theorem ustep_of {s : Sem Value} {t : Sem Next} {r : ANext} {σ1 : St} (hS : Reads true s) (hR : Reads true t) (hx : vmap (arun P s σ) = some (r, σ1)) (h : ROp P φ σ w t r σ1) : UStep P φ σ w t r σ1 := by
  unfold vmap at hx
  rw [Option.map_eq_some_iff] at hx
  obtain ⟨⟨v, σ2⟩, h1, h2⟩ := hx
  injection h2 with h2 h3
  subst h2 h3
  have e := reads_abs hS h1
  subst e
  obtain ⟨φ1, w1, v', h4, h5, h6, h7⟩ := h
  obtain ⟨d, hd⟩ := reads_real hR h4
  subst hd
  refine ⟨v, v', d, rfl, rfl, h4, h7.mono (fun k hk => ?_) (Nat.le_refl _)⟩
  obtain ⟨a, b, c⟩ := h5.ext k hk
  exact ⟨a.symm, b.symm, c.symm⟩

theorem reads_minmax {A : Array Value} {ts : Array TypeId} {ty : TypeId} (h : A.toList.all isInt = true) : Reads true (Builtin.min_ ts ty A) ∧ Reads true (Builtin.max_ ts ty A) := by
  unfold Builtin.min_ Builtin.max_
  cases hl : A.toList with
  | nil => exact ⟨trivial, trivial⟩
  | cons x l =>
    rw [hl, List.all_cons, Bool.and_eq_true] at h
    obtain ⟨y, h1, h2⟩ := min_int l x h.1 h.2
    obtain ⟨z, h3, h4⟩ := max_int l x h.1 h.2
    dsimp only
    rw [h2, h4]
    exact ⟨trivial, trivial⟩
theorem uop_sim (hn : namesOk P) (hr : RH P φ σ w) {ρ ρ' : Operand → Value} {o : Oper} (hρ : ∀ x, x ∈ o.op.operands → RV φ σ.n (ρ x) (ρ' x)) (hu : uOk P ρ o.op = true) {r : ANext} {σ1 : St} (h : aop P ρ o σ = some (r, σ1)) :
    UStep P φ σ w (execOp ρ' o) r σ1 := by
  have hall := aop_sim hn hr hρ h
  obtain ⟨dst, op, ty, pos, aft, gd⟩ := o
  have hb : ∀ {x : Operand}, x ∈ op.operands → RV φ σ.n (ρ x) (ρ' x) := fun hx => hρ _ hx
  have keep : ∀ {x : Operand}, x ∈ op.operands → some (ANext.value (ρ x), σ) = some (r, σ1) → UStep P φ σ w (pure (.value (ρ' x))) r σ1 := by
    intro x hx h
    injection h with h
    injection h with h1 h2
    subst h1 h2
    exact ⟨_, _, w.drawn, rfl, rfl, rfl, hb hx⟩
  unfold aop at h
  unfold execOp at hall ⊢
  cases op <;> simp only [uOk, Bool.false_eq_true] at hu <;> simp only at h hall ⊢
  case move x => exact keep (by simp [Op.operands]) h
  case assign x => exact keep (by simp [Op.operands]) h
  case load t a => exact ustep_of (reads_loadAt _ _) (reads_bind (reads_loadAt _ _) fun _ => trivial) h hall
  case makeInterface t a => exact ustep_of (reads_makeInterface _ _) (reads_bind (reads_makeInterface _ _) fun _ => trivial) h hall
  case fieldAddr t x k => exact ustep_of (reads_fieldAt _ _ _) (reads_bind (reads_fieldAt _ _ _) fun _ => trivial) h hall
  case field t x k => exact ustep_of (reads_field _ _ _) (reads_bind (reads_field _ _ _) fun _ => trivial) h hall
  case indexAddr t x i => exact ustep_of (reads_indexAt _ _ _) (reads_bind (reads_indexAt _ _ _) fun _ => trivial) h hall
  case index t x i => exact ustep_of (reads_index _ _ _) (reads_bind (reads_index _ _ _) fun _ => trivial) h hall
  case extract t i => exact ustep_of (reads_extract _ _) (reads_bind (reads_extract _ _) fun _ => trivial) h hall
  case build t ps =>
    split at h
    · exact ustep_of (reads_build _ _) (reads_bind (reads_build _ _) fun _ => trivial) h hall
    · cases h
  case makeFunc f a c =>
    injection h with h
    injection h with h1 h2
    subst h1 h2
    obtain ⟨φ1, w1, v', h4, h5, h6, h7⟩ := hall
    cases h4
    refine ⟨_, _, w.drawn, rfl, rfl, rfl, h7.mono (fun k hk => ?_) (Nat.le_refl _)⟩
    obtain ⟨a, b, c⟩ := h5.ext k hk
    exact ⟨a.symm, b.symm, c.symm⟩
  case lookup t x i ok =>
    rw [if_pos hu] at h
    rw [Bool.and_eq_true] at hu
    have e : ρ' i = ρ i := rv_key (hb (x := i) (by simp [Op.operands])) hu.1
    rw [e] at hall ⊢
    exact ustep_of (reads_lookup _ _ _ _ hu.1) (reads_bind (reads_lookup _ _ _ _ hu.1) fun _ => trivial) h hall
  case pick c a b =>
    split at h
    · rename_i t hc
      have hc' := hb (x := c) (by simp [Op.operands])
      rw [hc] at hc'
      have e : ρ' c = .bool t := rv_bool hc'
      rw [e]
      cases t
      · exact keep (x := b) (by simp [Op.operands]) h
      · exact keep (x := a) (by simp [Op.operands]) h
    · cases h
  case nilCheck x =>
    have hx := hb (x := x) (by simp [Op.operands])
    split at h
    · rename_i a hc
      rw [hc] at hx
      obtain ⟨a', h2⟩ := rv_ptr hx
      injection h with h
      injection h with h3 h4
      subst h3 h4
      rw [h2] at hx ⊢
      exact ⟨_, _, w.drawn, rfl, rfl, rfl, hx⟩
    · rename_i f a c hc
      rw [hc] at hx
      obtain ⟨a', c', e, _, _⟩ := rv_func hx
      injection h with h
      injection h with h3 h4
      subst h3 h4
      rw [e] at hx ⊢
      exact ⟨_, _, w.drawn, rfl, rfl, rfl, hx⟩
    · rename_i t v hc
      rw [hc] at hx
      obtain ⟨v', e, _⟩ := rv_iface hx
      injection h with h
      injection h with h3 h4
      subst h3 h4
      rw [e] at hx ⊢
      exact ⟨_, _, w.drawn, rfl, rfl, rfl, hx⟩
    · cases h
  case binOp op t x y t' =>
    split at h
    · rename_i hz
      rw [Bool.and_eq_true] at hz
      have hx := hb (x := x) (by simp [Op.operands])
      have hy := hb (x := y) (by simp [Op.operands])
      have e1 : simpleBin (ρ' x) (ρ' y) = true := by
        generalize ρ x = a at hx hu
        generalize ρ y = b at hy hu
        generalize ρ' x = a' at hx ⊢
        generalize ρ' y = b' at hy ⊢
        cases hx <;> cases hy <;> first | rfl | cases hu
      have e2 : binOk op (ρ' x) (ρ' y) = true := by
        have := hz.1
        generalize ρ x = a at hx this
        generalize ρ y = b at hy this
        generalize ρ' x = a' at hx ⊢
        generalize ρ' y = b' at hy ⊢
        cases hx <;> cases hy <;> exact this
      exact ustep_of (reads_bind (reads_guard _ _ _ _ _ _) fun _ => reads_bin _ _ hu hz.1) (reads_bind (reads_bind (reads_guard _ _ _ _ _ _) fun _ => reads_bin _ _ e1 e2) fun _ => trivial) h hall
    · exfalso
      unfold aNil at h
      split at h
      · rename_i e1 e2
        rw [e1, e2] at hu
        cases hu
      · cases h
  case unOp op t x =>
    split at h
    · rename_i hz
      have hx := hb (x := x) (by simp [Op.operands])
      have e : ρ' x = ρ x := by
        generalize ρ x = a at hx hz
        generalize ρ' x = a' at hx ⊢
        cases hx <;> first | rfl | cases hz
      have hq : Quiet (Op.unary op (ρ x)) := quiet_unary op (by
        generalize ρ x = a at hz
        cases a <;> simp only [unOk, Bool.false_eq_true] at hz
        · exact ⟨.i64, 0, .inr ⟨_, rfl⟩⟩
        · exact ⟨_, _, .inl rfl⟩)
      rw [e] at hall ⊢
      exact ustep_of (reads_quiet hq) (reads_bind (reads_quiet hq) fun _ => trivial) h hall
    · cases h
  case slice t x lo hi mx =>
    cases mx with
    | some m => cases hu
    | none =>
      simp only at h
      split at h
      · exact ustep_of (reads_sliceAt _ _ _ _ _) (reads_bind (reads_sliceAt _ _ _ _ _) fun _ => trivial) h hall
      · cases h
  case call c =>
    obtain ⟨cal, as, ats⟩ := c
    cases cal with
    | value f => cases hu
    | invoke r n => cases hu
    | builtin b =>
      cases b <;> simp only [Bool.false_eq_true] at hu
      case len =>
        simp only [acallee] at h
        simp only [resolve, pure_bind, invoke] at hall ⊢
        have ha : RVl φ σ.n (as.map ρ).toList (as.map ρ').toList := rvl_map _ fun x hx => hb (by simp only [Op.operands, Call.operands]; exact Array.mem_append.2 (.inr (Array.mem_toList_iff.1 hx)))
        generalize as.map ρ = A at h ha
        generalize as.map ρ' = A' at ha hall ⊢
        split at h <;> first | (rename_i h1 _; cases h1; done) | (rename_i h1; cases h1; done) | skip
        · rename_i x hl
          rw [hl] at ha
          obtain ⟨x', hx', hx⟩ := rvl1 ha
          rw [arr1 hx'] at hall ⊢
          exact ustep_of (reads_len _ _ _) (reads_bind (reads_len _ _ _) fun _ => trivial) h hall
        all_goals cases h
      case max =>
        simp only [acallee] at h
        simp only [resolve, pure_bind, invoke] at hall ⊢
        have ha : RVl φ σ.n (as.map ρ).toList (as.map ρ').toList := rvl_map _ fun x hx => hb (by simp only [Op.operands, Call.operands]; exact Array.mem_append.2 (.inr (Array.mem_toList_iff.1 hx)))
        generalize as.map ρ = A at h ha hu
        generalize as.map ρ' = A' at ha hall ⊢
        rw [if_pos hu] at h
        have e : A' = A := Array.ext' (rv_ints ha hu)
        subst e
        rw [show A'.toList.toArray = A' from by simp] at h
        exact ustep_of (reads_minmax hu).2 (reads_bind (reads_minmax hu).2 fun _ => trivial) h hall
      case min =>
        simp only [acallee] at h
        simp only [resolve, pure_bind, invoke] at hall ⊢
        have ha : RVl φ σ.n (as.map ρ).toList (as.map ρ').toList := rvl_map _ fun x hx => hb (by simp only [Op.operands, Call.operands]; exact Array.mem_append.2 (.inr (Array.mem_toList_iff.1 hx)))
        generalize as.map ρ = A at h ha hu
        generalize as.map ρ' = A' at ha hall ⊢
        rw [if_pos hu] at h
        have e : A' = A := Array.ext' (rv_ints ha hu)
        subst e
        rw [show A'.toList.toArray = A' from by simp] at h
        exact ustep_of (reads_minmax hu).1 (reads_bind (reads_minmax hu).1 fun _ => trivial) h hall
  case convert src dst x =>
    rw [if_pos hu] at h
    obtain ⟨s, h1, h2, _⟩ := conv_reads hu
    obtain ⟨s', h3, _, h4⟩ := conv_reads (P := P) (src := src) (dst := dst) (x := ρ' x) (by
      have hx := hb (x := x) (by simp [Op.operands])
      generalize ρ x = a at hx hu
      generalize ρ' x = a' at hx ⊢
      revert hu
      unfold convOk
      generalize P.underlying src = s0
      generalize P.underlying dst = d0
      cases hx <;> try exact id
      all_goals
        cases s0 <;> cases d0 <;> try exact id
        rename_i s1 d1
        cases s1 <;> cases d1 <;> exact id)
    rw [h2] at h
    have e : ∀ w, (do pure (.value (← convert src dst (ρ' x))) : Sem Next).run P w = (do pure (.value (← s')) : Sem Next).run P w := fun w => by
      rw [Sem.run_bind, Sem.run_bind, h4]
    have hall' : ROp P φ σ w (do pure (.value (← s')) : Sem Next) r σ1 := by
      cases r with
      | value v => obtain ⟨φ1, w1, v', g1, g2⟩ := hall; exact ⟨φ1, w1, v', (e w).symm.trans g1, g2⟩
      | skip => obtain ⟨φ1, w1, g1, g2⟩ := hall; exact ⟨φ1, w1, (e w).symm.trans g1, g2⟩
      | enter f args => obtain ⟨a', g1, g2⟩ := hall; exact ⟨a', (e w).symm.trans g1, g2⟩
      | panic v => obtain ⟨a', g1, g2⟩ := hall; exact ⟨a', (e w).symm.trans g1, g2⟩
    obtain ⟨v, v', d, g1, g2, g3, g4⟩ := ustep_of h1 (reads_bind h3 fun _ => reads_pure _) h hall'
    exact ⟨v, v', d, g1, g2, (e w).trans g3, g4⟩
end
end Go.AM

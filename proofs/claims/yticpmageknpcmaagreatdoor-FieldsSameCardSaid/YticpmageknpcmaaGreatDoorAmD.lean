/- A part of the proof that FieldsSame, called with any two lists of tags (the laid tables as the text lays them), returns true and leaves its arguments as they were. Here: regions without an order. -/
import Derived.Test.YticpmageknpcmaaGreatDoorAmC
set_option linter.unusedVariables false
set_option linter.unusedSimpArgs false
namespace Go.AM
open Go

/-! Regions whose order is drawn: one order for all. -/
inductive Kd where
  | u | a | n
  deriving DecidableEq

def kd : Op → Kd
  | .alloc _ => .a
  | .move _ | .pick .. | .load .. | .nilCheck _ | .unOp .. | .makeInterface .. | .fieldAddr .. | .field .. | .indexAddr .. | .index .. | .extract .. | .build .. | .makeFunc .. => .u
  | .slice _ _ _ _ none => .u
  | .binOp .. => .u
  | .convert .. => .u
  | .lookup .. => .u
  | .call ⟨.builtin .len, _, _⟩ => .u
  | .call ⟨.builtin .min, _, _⟩ => .u
  | .call ⟨.builtin .max, _, _⟩ => .u
  | _ => .n

def sameV : Nat → Value → Value → Bool
  | _, .bool a, .bool b => a == b
  | _, .int k a, .int k' b => decide (k = k') && a == b
  | _, .string a, .string b => decide (a = b)
  | _, .pointer none, .pointer none => true
  | _, .pointer (some ⟨a, b, none⟩), .pointer (some ⟨c, d, none⟩) => a == c && b == d
  | _, .slice none l c, .slice none l' c' => l == l' && c == c'
  | _, .slice (some ⟨a, b, none⟩) l c, .slice (some ⟨a', b', none⟩) l' c' => a == a' && b == b' && l == l' && c == c'
  | _, .map a, .map b => a == b
  | _, .nilFunc, .nilFunc => true
  | _, .nilIface, .nilIface => true
  | n + 1, .iface t v, .iface t' v' => t == t' && sameV n v v'
  | n + 1, .agg a, .agg b => a.toList.length == b.toList.length && (List.zip a.toList b.toList).all fun p => sameV n p.1 p.2
  | n + 1, .tuple a, .tuple b => a.toList.length == b.toList.length && (List.zip a.toList b.toList).all fun p => sameV n p.1 p.2
  | _, _, _ => false

theorem sameV_list {f : Value → Value → Bool} (hf : ∀ a b, f a b = true → a = b) : ∀ (l l' : List Value), l.length = l'.length → (List.zip l l').all (fun p => f p.1 p.2) = true → l = l' := by
  intro l
  induction l with
  | nil => intro l' h _; cases l' with | nil => rfl | cons => simp at h
  | cons x l ih =>
    intro l' h h2
    cases l' with
    | nil => simp at h
    | cons y l' =>
      simp only [List.zip_cons_cons, List.all_cons, Bool.and_eq_true] at h2
      rw [hf x y h2.1, ih l' (by simpa using h) h2.2]
theorem sameV_eq : ∀ (n : Nat) (a b : Value), sameV n a b = true → a = b := by
  intro n
  induction n with
  | zero =>
    intro a b h
    unfold sameV at h
    split at h <;> simp_all
  | succ n ih =>
    intro a b h
    unfold sameV at h
    split at h <;> first
      | (simp_all; done)
      | (obtain rfl := Nat.succ.inj (by assumption); simp only [Bool.and_eq_true, beq_iff_eq] at h; rw [h.1, ih _ _ h.2]; done)
      | (obtain rfl := Nat.succ.inj (by assumption)
         simp only [Bool.and_eq_true, beq_iff_eq] at h
         have := sameV_list ih _ _ h.1 h.2
         congr 1
         exact Array.ext' this)

section
variable {P : Program} {G : Cfg} {ops : Array Oper}
theorem acallee_congr {ρ ρ' : Operand → Value} (c : Call) (ty : TypeId) (σ : St) (h : ∀ x ∈ c.operands, ρ x = ρ' x) : acallee P ρ c ty σ = acallee P ρ' c ty σ := by
  have hargs : c.args.map ρ = c.args.map ρ' := Array.map_congr_left fun x hx => h x (by simp [Call.operands, hx])
  unfold acallee
  simp only [hargs]
  cases hc : c.callee with
  | value f => have hf : ρ f = ρ' f := h f (by simp [Call.operands, hc]); simp only [hf]
  | invoke r m => have hr : ρ r = ρ' r := h r (by simp [Call.operands, hc]); simp only [hr]
  | builtin b => rfl
theorem aop_congr {ρ ρ' : Operand → Value} (o : Oper) (σ : St) (h : ∀ x ∈ o.op.operands, ρ x = ρ' x) : aop P ρ o σ = aop P ρ' o σ := by
  obtain ⟨dst, op, type, pos, after, guard⟩ := o
  have pairs : ∀ ps : Array (Nat × Operand), (∀ x ∈ ps.map (·.2), ρ x = ρ' x) →
      (ps.map fun (i, x) => (i, ρ x)) = (ps.map fun (i, x) => (i, ρ' x)) := fun ps hp =>
    Array.map_congr_left fun p hm => by
      obtain ⟨i, x⟩ := p
      simp only [hp x (Array.mem_map.2 ⟨(i, x), hm, rfl⟩)]
  cases op <;> simp only [Op.operands] at h <;> simp only [aop]
  case build t ps => rw [pairs ps fun x hx => h x (by simpa using hx)]
  case buildSlice t n ps => rw [pairs ps fun x hx => h x (by simpa using hx)]
  case makeFunc fn first captured =>
    rw [Array.map_congr_left (xs := first) fun x hx => h x (by simp [hx]), Array.map_congr_left (xs := captured) fun x hx => h x (by simp [hx])]
  case call c => exact acallee_congr c _ σ h
  case makeMap t r => cases r <;> rfl
  case slice t x lo hi mx => cases lo <;> cases hi <;> cases mx <;> simp_all
  case next it b => cases b <;> simp_all
  all_goals (first | rfl | (simp_all; done))
theorem uOk_congr {ρ ρ' : Operand → Value} (op : Op) (h : ∀ x ∈ op.operands, ρ x = ρ' x) : uOk P ρ op = uOk P ρ' op := by
  cases op <;> simp only [Op.operands] at h <;> simp only [uOk]
  case slice t x lo hi mx => cases mx <;> rfl
  case binOp op t x y t' => rw [h x (by simp), h y (by simp)]
  case convert s d x => rw [h x (by simp)]
  case lookup t x i ok => rw [h i (by simp)]
  case call c =>
    obtain ⟨cal, as, ats⟩ := c
    cases cal with
    | value f => rfl
    | invoke r n => rfl
    | builtin b =>
      have hargs : as.map ρ = as.map ρ' := Array.map_congr_left fun x hx => h x (by simp [Call.operands, hx])
      cases b <;> simp only [hargs]
theorem ev_put {env : List Value} {dst : Option Tmp} {v : Value} {x : Operand} (h : ∀ d, dst = some d → x ≠ .tmp d) : ev G (aput dst v env) x = ev G env x := by
  cases dst with
  | none => rfl
  | some d =>
    cases x with
    | tmp t =>
      have hne : d ≠ t := fun e => h d rfl (e ▸ rfl)
      simp only [ev, aput, List.getD_eq_getElem?_getD, List.getElem?_set_ne hne]
    | _ => rfl
theorem look_operand {o : Oper} {d : Tmp} (h : Operand.tmp d ∈ o.op.operands) : d ∈ o.looksAt ops :=
  List.mem_append_left _ (List.mem_filterMap.2 ⟨.tmp d, by simpa using h, rfl⟩)
theorem aop_put (o : Oper) (env : List Value) (dst : Option Tmp) (v : Value) (σ : St) (h : ∀ d, dst = some d → d ∉ o.looksAt ops) : aop P (ev G (aput dst v env)) o σ = aop P (ev G env) o σ :=
  aop_congr o σ fun x hx => ev_put fun d hd hxd => h d hd (look_operand (hxd ▸ hx))
theorem uOk_put (o : Oper) (env : List Value) (dst : Option Tmp) (v : Value) (h : ∀ d, dst = some d → d ∉ o.looksAt ops) : uOk P (ev G (aput dst v env)) o.op = uOk P (ev G env) o.op :=
  uOk_congr o.op fun x hx => ev_put fun d hd hxd => h d hd (look_operand (hxd ▸ hx))
theorem awanted_put (o : Oper) (env : List Value) (dst : Option Tmp) (v : Value) (h : ∀ d, dst = some d → d ∉ o.looksAt ops) : Region.wanted o (ayield ops (aput dst v env)) = Region.wanted o (ayield ops env) := by
  cases dst with
  | none => rfl
  | some d =>
    unfold Region.wanted
    cases hg : o.guard with
    | none => rfl
    | some gw =>
      obtain ⟨g, want⟩ := gw
      have hy : ayield ops (aput (some d) v env) g = ayield ops env g := by
        unfold ayield
        cases ht : (ops[g]?).bind (·.dst) with
        | none => rfl
        | some t =>
          have hne : d ≠ t := fun e => h d rfl (by subst e; simp [Oper.looksAt, hg, ht])
          simp only [aput, Option.bind_some, List.getElem?_set_ne hne]
      simp only [hy]
end
end Go.AM
namespace Go.AM
open Go

/-! The plan of a region: what is looked at in its text. -/
def deps (ops : Array Oper) (i : Nat) : List Nat := match ops[i]? with
  | some o => (o.after.toList.filter fun e => Region.binds .any e).map (·.on)
  | none => []
def kdAt (ops : Array Oper) (i : Nat) : Kd := match ops[i]? with
  | some o => kd o.op
  | none => .n
def masks (ops : Array Oper) : Nat → List Nat
  | 0 => []
  | k + 1 => masks ops k ++ [(deps ops k).foldl (fun m j => m ||| (1 <<< j) ||| (masks ops k).getD j 0) 0]
def ancB (ms : List Nat) (i j : Nat) : Bool := (ms.getD i 0).testBit j
def Closed (ops : Array Oper) (X : Nat → Prop) : Prop := ∀ k, X k → ∀ d ∈ deps ops k, X d

theorem masks_len (ops : Array Oper) : ∀ k, (masks ops k).length = k
  | 0 => rfl
  | k + 1 => by simp [masks, masks_len ops k]
theorem fold_bit (l : List Nat) (j : Nat) : ∀ (ds : List Nat) (m : Nat), (ds.foldl (fun m d => m ||| (1 <<< d) ||| l.getD d 0) m).testBit j = true → m.testBit j = true ∨ ∃ d ∈ ds, j = d ∨ (l.getD d 0).testBit j = true := by
  intro ds
  induction ds with
  | nil => intro m h; exact .inl h
  | cons d ds ih =>
    intro m h
    rcases ih _ h with h | ⟨e, h1, h2⟩
    · rw [Nat.testBit_or, Nat.testBit_or, Nat.one_shiftLeft, Bool.or_eq_true, Bool.or_eq_true] at h
      rcases h with (h | h) | h
      · exact .inl h
      · rw [Nat.testBit_two_pow] at h
        exact .inr ⟨d, by simp, .inl (by simpa using h : d = j).symm⟩
      · exact .inr ⟨d, by simp, .inr h⟩
    · exact .inr ⟨e, by simp [h1], h2⟩
theorem masks_anc (ops : Array Oper) : ∀ k i j, ancB (masks ops k) i j = true → ∀ X, Closed ops X → (∀ d ∈ deps ops i, X d) → X j := by
  intro k
  induction k with
  | zero => intro i j h; simp [ancB, masks] at h
  | succ k ih =>
    intro i j h X hX hd
    unfold ancB masks at h
    rw [List.getD_eq_getElem?_getD] at h
    by_cases hi : i < k
    · rw [List.getElem?_append_left (by rw [masks_len]; exact hi), ← List.getD_eq_getElem?_getD] at h
      exact ih i j h X hX hd
    · rw [List.getElem?_append_right (by rw [masks_len]; omega), masks_len] at h
      by_cases he : i = k
      · subst he
        rw [Nat.sub_self] at h
        simp only [List.getElem?_cons_zero, Option.getD_some] at h
        rcases fold_bit (masks ops i) j (deps ops i) 0 h with h | ⟨d, h1, h2⟩
        · simp at h
        · rcases h2 with rfl | h2
          · exact hd _ h1
          · exact ih d j h2 X hX (hX d (hd d h1))
      · have : i - k ≠ 0 := by omega
        obtain ⟨m, hm⟩ := Nat.exists_eq_succ_of_ne_zero this
        rw [hm] at h
        simp at h

def saturated (ops : Array Oper) (D : List Nat) : Bool := (List.range ops.size).all fun j => decide (kdAt ops j ≠ .u) || D.contains j || !((deps ops j).all fun d => D.contains d)
def guardless (ops : Array Oper) (i : Nat) : Bool := match ops[i]? with
  | some o => o.guard.isNone
  | none => false
def planOk (ops : Array Oper) (ms : List Nat) : List Nat → List (Nat × List Nat) → Bool
  | D, [] => (List.range ops.size).all fun i => D.contains i
  | D, (i, re) :: rest => decide (i < ops.size) && !D.contains i && ((deps ops i).all fun d => D.contains d) &&
    (match kdAt ops i with
     | .u => true
     | .a => saturated ops D && guardless ops i && D.all fun j => decide (kdAt ops j ≠ .u) || ancB ms i j || re.contains j
     | .n => saturated ops D && D.all fun j => if kdAt ops j = .u then ancB ms i j || re.contains j else ancB ms i j) && planOk ops ms (i :: D) rest
def pairOk (ops : Array Oper) (ms : List Nat) (i j : Nat) : Bool := match ops[i]?, ops[j]? with
  | some oi, some oj => match oi.dst with
    | none => true
    | some d => if i = j then !(oi.looksAt ops).contains d else oj.dst != some d && (!(oj.looksAt ops).contains d || (deps ops j).contains i || (decide (kd oi.op = .n) && ancB ms i j))
  | _, _ => true
def uDepOk (ops : Array Oper) (ms : List Nat) (i : Nat) : Bool := decide (kdAt ops i ≠ .u) || (deps ops i).all fun j => decide (kdAt ops j ≠ .a) || (List.range ops.size).any fun k => decide (kdAt ops k = .n) && ancB ms i k && ancB ms k j
def zeroOf (P : Program) (t : TypeId) : Option Value := (P.info? t).bind (·.zero)
def aOk (P : Program) (ops : Array Oper) (i : Nat) : Bool := match ops[i]? with
  | some o => match o.op with
    | .alloc t => o.guard.isNone && match zeroOf P t with
      | some z => z.cells.toList.all cleanV && z.cells.toList.all St.oneCell
      | none => false
    | _ => true
  | none => true
def regOk (P : Program) (ops : Array Oper) (ms : List Nat) : Bool := (List.range ops.size).all fun i => ((deps ops i).all fun d => decide (d < i)) && ((List.range ops.size).all fun j => pairOk ops ms i j) && uDepOk ops ms i && aOk P ops i

/-! The plan itself. -/
def pick1 (l : List Nat) (p : Nat → Bool) : Option Nat := l.find? p
def mkPlan (ops : Array Oper) (ms : List Nat) : Nat → List Nat → List (Nat × List Nat)
  | 0, _ => []
  | f + 1, D =>
    let all := List.range ops.size
    let rdy := fun i => !D.contains i && (deps ops i).all fun d => D.contains d
    let re := fun i => D.filter fun j => decide (kdAt ops j = .u) && !ancB ms i j
    match all.find? fun i => decide (kdAt ops i = .u) && rdy i with
    | some i => (i, []) :: mkPlan ops ms f (i :: D)
    | none => match all.find? fun i => decide (kdAt ops i = .n) && !D.contains i with
      | some n => match all.find? fun i => decide (kdAt ops i = .a) && rdy i && ancB ms n i with
        | some i => (i, re i) :: mkPlan ops ms f (i :: D)
        | none => if rdy n then (n, re n) :: mkPlan ops ms f (n :: D) else []
      | none => match all.find? fun i => decide (kdAt ops i = .a) && rdy i with
        | some i => (i, re i) :: mkPlan ops ms f (i :: D)
        | none => []
def planOf (P : Program) (ops : Array Oper) : Option (List (Nat × List Nat)) :=
  let ms := masks ops ops.size
  let pl := mkPlan ops ms ops.size []
  if regOk P ops ms && planOk ops ms [] pl then some pl else none

/-! Its run. -/
def sameAt (dst : Option Tmp) (v : Value) (env : List Value) : Bool := match dst with
  | some d => !decide (d < env.length) || sameV 8 v (env.getD d undef)
  | none => true
def arecheck (P : Program) (G : Cfg) (ops : Array Oper) (env : List Value) (σ : St) : List Nat → Bool
  | [] => true
  | k :: l => (match ops[k]? with
    | some o => if Region.wanted o (ayield ops env) then uOk P (ev G env) o.op && (match aop P (ev G env) o σ with | some (.value v, _) => sameAt o.dst v env | _ => false) else sameAt o.dst undef env
    | none => true) && arecheck P G ops env σ l
def runPlan (P : Program) (G : Cfg) (call : ACall) (ops : Array Oper) : List (Nat × List Nat) → List Value → St → ARes
  | [], env, σ => some (.normal, env, σ)
  | (i, re) :: rest, env, σ => match ops[i]? with
    | none => none
    | some o =>
      if Region.wanted o (ayield ops env) then
        match kd o.op with
        | .u => if uOk P (ev G env) o.op then match aop P (ev G env) o σ with
            | some (.value v, _) => runPlan P G call ops rest (aput o.dst v env) σ
            | _ => none
          else none
        | _ => match aop P (ev G env) o σ with
          | some (.value v, σ1) => if arecheck P G ops (aput o.dst v env) σ1 re then runPlan P G call ops rest (aput o.dst v env) σ1 else none
          | some (.skip, σ1) => if arecheck P G ops (aput o.dst undef env) σ1 re then runPlan P G call ops rest (aput o.dst undef env) σ1 else none
          | some (.enter f args, σ1) => match call f args.toList σ1 with
            | some (.ret v, σ2) => if arecheck P G ops (aput o.dst v env) σ2 re then runPlan P G call ops rest (aput o.dst v env) σ2 else none
            | some (.panic v, σ2) => some (.panic v, env, σ2)
            | none => none
          | some (.panic v, σ1) => some (.panic v, env, σ1)
          | none => none
      else runPlan P G call ops rest (aput o.dst undef env) σ
def adraw (G : Cfg) (P : Program) (call : ACall) (ops : Array Oper) (env : List Value) (σ : St) : ARes := match planOf P ops with
  | some pl => runPlan P G call ops pl env σ
  | none => none
end Go.AM
namespace Go.AM
open Go

section
variable {P : Program} {G : Cfg} {ops : Array Oper} {φ : PMap} {σ : St} {w : World}

theorem kdAt_of {i : Nat} {o : Oper} (h : ops[i]? = some o) : kdAt ops i = kd o.op := by simp [kdAt, h]
theorem deps_of {i : Nat} {o : Oper} (h : ops[i]? = some o) {d : Nat} : d ∈ deps ops i ↔ ∃ e ∈ o.after, Region.binds .any e = true ∧ e.on = d := by
  simp [deps, h, and_assoc]

/-! ### an allocation -/
theorem alloc_abs {t : TypeId} {r : ANext} {σ1 : St} (h : vmap (arun P (Instr.alloc t true (.tuple #[])) σ) = some (r, σ1)) :
    ∃ z, zeroOf P t = some z ∧ z.cells.toList.all St.oneCell = true ∧ r = .value (.pointer (some ⟨σ.n, 0, none⟩)) ∧ σ1 = σ.alloc (.cells z.cells.toList t true) := by
  unfold vmap at h
  rw [Option.map_eq_some_iff] at h
  obtain ⟨⟨v, σ2⟩, h1, h2⟩ := h
  injection h2 with h2 h3
  subst h2 h3
  unfold Instr.alloc zeroValue typeInfo at h1
  rw [arun_bind, arun_bind, arun_bind] at h1
  have e : arun P program σ = some (P, σ) := rfl
  rw [e, Option.bind_some] at h1
  cases hi : P.info? t with
  | none => simp only [hi] at h1; cases h1
  | some i =>
    simp only [hi] at h1
    rw [arun_pure, Option.bind_some] at h1
    cases hz : i.zero with
    | none => simp only [hz] at h1; cases h1
    | some z =>
      simp only [hz] at h1
      rw [arun_pure, Option.bind_some] at h1
      refine ⟨z, by simp [zeroOf, hi, hz], ?_⟩
      have e2 : arun P (newVar t z) σ = if z.cells.toList.all St.oneCell then some (⟨σ.n, 0, none⟩, σ.alloc (.cells z.cells.toList t true)) else none := by
        show (match newObj? (.cells z.cells t) with | some ob => some ((⟨σ.n, 0, none⟩ : Addr), σ.alloc ob) | none => none) = _
        simp only [newObj?]
        split <;> simp_all
      simp only at h1
      rw [arun_bind, e2] at h1
      by_cases ho : z.cells.toList.all St.oneCell = true
      · rw [if_pos ho, Option.bind_some, arun_pure] at h1
        injection h1 with h1
        injection h1 with h3 h4
        exact ⟨ho, by rw [h3], h4.symm⟩
      · rw [if_neg ho] at h1; cases h1
theorem alloc_real {t : TypeId} {z : Value} (hz : zeroOf P t = some z) : (Instr.alloc t true (.tuple #[])).run P w = .ok (.pointer (some ⟨w.heap.size, 0, none⟩)) (w.alloc (.cells z.cells t)) := by
  unfold zeroOf at hz
  rw [Option.bind_eq_some_iff] at hz
  obtain ⟨i, h1, h2⟩ := hz
  unfold Instr.alloc zeroValue
  rw [Sem.run_bind, Sem.run_bind, run_info h1, Result.andThen_ok]
  simp only [h2, Sem.run_pure, Result.andThen_ok]
  rfl

/-- A block that stands there already is taken for a new handle. -/
theorem RH.adopt (hr : RH P φ σ w) {b : Nat} {cs : Array Value} {t : TypeId} (hb : w.heap[b]? = some (.cells cs t)) (hall : cs.toList.all St.oneCell = true) (hc : cs.toList.all cleanV = true)
    (hnot : ∀ k x, σ.get k = some x → live x = true → (φ.at_ k).block ≠ b) :
    RH P (φ.new σ.n ⟨b, 0, none⟩ cs.size ((szOf P t).getD 0)) (σ.alloc (.cells cs.toList t true)) w := by
  have hat : ∀ k, k ≠ σ.n → (φ.new σ.n ⟨b, 0, none⟩ cs.size ((szOf P t).getD 0)).at_ k = φ.at_ k := fun k hk => by simp [PMap.new, hk]
  have hatn : (φ.new σ.n ⟨b, 0, none⟩ cs.size ((szOf P t).getD 0)).at_ σ.n = ⟨b, 0, none⟩ := by simp [PMap.new]
  have key : ∀ k x, (σ.alloc (.cells cs.toList t true)).get k = some x → (k = σ.n ∧ x = .cells cs.toList t true) ∨ (k ≠ σ.n ∧ σ.get k = some x) := by
    intro k x hx
    rw [St.get_alloc] at hx
    split at hx
    · injection hx with hx
      exact .inl ⟨by assumption, hx.symm⟩
    · exact .inr ⟨by assumption, hx⟩
  constructor
  · intro k x hk
    rcases key k x hk with ⟨rfl, rfl⟩ | ⟨hne, hk'⟩
    · refine ⟨⟨by rw [hatn], hall⟩, cs, t, (0, 0), by rw [hatn]; exact hb, fun i v hv => ?_, fun s hs => ?_, fun _ => ⟨rfl, ?_, ?_, fun i _ h => ?_, fun _ => ⟨by rw [hatn], by simp⟩⟩⟩
      · refine ⟨v, by rw [hatn]; simpa using hv, rv_clean ?_ _ _⟩
        obtain ⟨h1, h2⟩ := List.getElem?_eq_some_iff.1 hv
        exact List.all_eq_true.1 hc v (h2 ▸ List.getElem_mem h1)
      · simp [PMap.new, hs]
      · simp [PMap.new]
      · simp [PMap.new]
      · simp at h
    · by_cases hl : live x = true
      · exact RO.mono (PMap.new_ext _ _ _ _ _) (Nat.le_succ _) (St.get_lt hk') (hr.objs k x hk')
      · cases x <;> simp_all [live, RO]
  · intro k1 k2 x1 x2 h1 h2 hx1 hx2 hk
    rcases key k1 x1 h1 with ⟨rfl, rfl⟩ | ⟨hn1, h1'⟩ <;> rcases key k2 x2 h2 with ⟨rfl, rfl⟩ | ⟨hn2, h2'⟩
    · exact absurd rfl hk
    · rw [hatn, hat k2 hn2]
      exact (hnot k2 x2 h2' hx2).symm
    · rw [hatn, hat k1 hn1]
      exact hnot k1 x1 h1' (live_of_own hx1)
    · rw [hat k1 hn1, hat k2 hn2]
      exact hr.apart k1 k2 x1 x2 h1' h2' hx1 hx2 hk
theorem Frm.adopt {φ0 : PMap} {σ0 : St} {w0 : World} (hf : Frm φ0 σ0 w0 φ σ w) {b : Nat} (hb : w0.heap.size ≤ b) (room sz : Nat) (o : AObj) :
    Frm φ0 σ0 w0 (φ.new σ.n ⟨b, 0, none⟩ room sz) (σ.alloc o) w := by
  have hat : ∀ k, k ≠ σ.n → (φ.new σ.n ⟨b, 0, none⟩ room sz).at_ k = φ.at_ k := fun k hk => by simp [PMap.new, hk]
  have hatn : (φ.new σ.n ⟨b, 0, none⟩ room sz).at_ σ.n = ⟨b, 0, none⟩ := by simp [PMap.new]
  have hn := hf.n_le
  have key : ∀ k x, (σ.alloc o).get k = some x → (k = σ.n ∧ x = o) ∨ (k ≠ σ.n ∧ σ.get k = some x) := by
    intro k x hx
    rw [St.get_alloc] at hx
    split at hx
    · injection hx with hx
      exact .inl ⟨by assumption, hx.symm⟩
    · exact .inr ⟨by assumption, hx⟩
  refine ⟨hf.ext.trans hn (PMap.new_ext _ _ _ _ _), Nat.le_succ_of_le hn, hf.size_le, hf.os, hf.tape, hf.output, hf.block, ?_, ?_⟩
  · rintro c ⟨k, x, hk, hx, rfl⟩
    rcases key k x hk with ⟨rfl, rfl⟩ | ⟨hne, hk'⟩
    · rw [hatn]; exact .inl hb
    · rw [hat k hne]; exact hf.own _ ⟨k, x, hk', hx, rfl⟩
  · intro k x hk hx
    rcases key k x hk with ⟨rfl, rfl⟩ | ⟨hne, hk'⟩
    · rw [hatn]; exact .inr ⟨hn, .inl hb⟩
    · rw [hat k hne]; exact hf.lives k x hk' hx
end
end Go.AM
namespace Go.AM
open Go

/-! The real order against the plan's. -/
abbrev Li (listed : Array Bool) (i : Nat) : Prop := listed.getD i false = true

structure UPend (P : Program) (G : Cfg) (ops : Array Oper) (env : List Value) (σ : St) (o : Oper) : Prop where
  at_ : ∃ v, (if Region.wanted o (ayield ops env) = true then uOk P (ev G env) o.op = true ∧ ∃ σ', aop P (ev G env) o σ = some (.value v, σ') else v = undef) ∧ ∀ d, o.dst = some d → d < env.length → env.getD d undef = v

def APend (P : Program) (φ : PMap) (σ : St) (w w0 : World) (tmps : Array Value) (o : Oper) (b : Nat) : Prop :=
  ∃ t z, o.op = .alloc t ∧ zeroOf P t = some z ∧ w.heap[b]? = some (.cells z.cells t) ∧ w0.heap.size ≤ b ∧ (∀ k x, σ.get k = some x → live x = true → (φ.at_ k).block ≠ b) ∧
    ∀ d, o.dst = some d → d < tmps.size → tmps.getD d undef = .pointer (some ⟨b, 0, none⟩)

structure Inv (P : Program) (G : Cfg) (call : ACall) (ops : Array Oper) (φ0 : PMap) (σ0 : St) (w0 : World) (fin : AExit × List Value × St) (ds : List Deferred)
    (listed : Array Bool) (a : Act) (w : World) (D : List Nat) (rest : List (Nat × List Nat)) (env : List Value) (σ : St) (φ : PMap) (pb : Nat → Nat) : Prop where
  size : listed.size = ops.size
  closedL : ∀ i, Li listed i → ∀ d ∈ deps ops i, Li listed d
  plan : planOk ops (masks ops ops.size) D rest = true
  closedD : ∀ i ∈ D, i < ops.size ∧ ∀ d ∈ deps ops i, d ∈ D
  frm : Frm φ0 σ0 w0 φ σ w
  rh : RH P φ σ w
  run : runPlan P G call ops rest env σ = some fin
  nL : ∀ (i : Nat) (o : Oper), ops[i]? = some o → kd o.op = .n → (Li listed i ↔ i ∈ D)
  uL : ∀ (i : Nat) (o : Oper), ops[i]? = some o → kd o.op = .u → Li listed i → i ∈ D
  aL : ∀ (i : Nat) (o : Oper), ops[i]? = some o → kd o.op = .a → i ∈ D → Li listed i
  len : env.length = a.tmps.size
  tm : ∀ t, (∀ (i : Nat) (o : Oper), ops[i]? = some o → o.dst = some t → (Li listed i ↔ i ∈ D)) → RV φ σ.n (env.getD t undef) (a.tmps.getD t undef)
  pu : ∀ (i : Nat) (o : Oper), ops[i]? = some o → kd o.op = .u → i ∈ D → ¬ Li listed i → UPend P G ops env σ o
  pa : ∀ (i : Nat) (o : Oper), ops[i]? = some o → kd o.op = .a → Li listed i → i ∉ D → APend P φ σ w w0 a.tmps o (pb i)
  inj : ∀ (i j : Nat) (o o' : Oper), ops[i]? = some o → ops[j]? = some o' → kd o.op = .a → kd o'.op = .a → Li listed i → i ∉ D → Li listed j → j ∉ D → pb i = pb j → i = j
  dfr : a.defers = ds

section
variable {P : Program} {G : Cfg} {call : ACall} {ops : Array Oper} {φ0 : PMap} {σ0 : St} {w0 : World} {fin : AExit × List Value × St} {ds : List Deferred}
  {listed : Array Bool} {a : Act} {w : World} {D : List Nat} {rest : List (Nat × List Nat)} {env : List Value} {σ : St} {φ : PMap} {pb : Nat → Nat}

theorem li_lt (hs : listed.size = ops.size) {i : Nat} (h : Li listed i) : i < ops.size := by
  rcases Nat.lt_or_ge i listed.size with h' | h'
  · omega
  · simp [Li, Array.getElem?_eq_none h'] at h
theorem li_op (hs : listed.size = ops.size) {i : Nat} (h : Li listed i) : ∃ o, ops[i]? = some o := ⟨_, Array.getElem?_eq_getElem (li_lt hs h)⟩

/-- What the text gives. -/
structure Reg (P : Program) (ops : Array Oper) : Prop where
  lt : ∀ i, ∀ d ∈ deps ops i, d < i
  own : ∀ (i : Nat) (o : Oper) (d : Tmp), ops[i]? = some o → o.dst = some d → d ∉ o.looksAt ops
  ne : ∀ (i j : Nat) (o o' : Oper) (d : Tmp), i ≠ j → ops[i]? = some o → ops[j]? = some o' → o.dst = some d → o'.dst ≠ some d
  look : ∀ (i j : Nat) (o o' : Oper) (d : Tmp), i ≠ j → ops[i]? = some o → ops[j]? = some o' → o.dst = some d → d ∈ o'.looksAt ops → i ∈ deps ops j ∨ (kd o.op = .n ∧ ancB (masks ops ops.size) i j = true)
  ud : ∀ (i j : Nat) (o o' : Oper), ops[i]? = some o → ops[j]? = some o' → kd o.op = .u → kd o'.op = .a → j ∈ deps ops i → ∃ k o2, ops[k]? = some o2 ∧ kd o2.op = .n ∧ ancB (masks ops ops.size) i k = true ∧ ancB (masks ops ops.size) k j = true
  zero : ∀ (i : Nat) (o : Oper) (t : TypeId), ops[i]? = some o → o.op = .alloc t → o.guard = none ∧ ∃ z, zeroOf P t = some z ∧ z.cells.toList.all cleanV = true ∧ z.cells.toList.all St.oneCell = true

theorem reg_of (h : regOk P ops (masks ops ops.size) = true) : Reg P ops := by
  unfold regOk at h
  rw [List.all_eq_true] at h
  have h' : ∀ (i : Nat) (o : Oper), ops[i]? = some o → (∀ d ∈ deps ops i, d < i) ∧ (∀ (j : Nat) (o' : Oper), ops[j]? = some o' → pairOk ops (masks ops ops.size) i j = true) ∧ uDepOk ops (masks ops ops.size) i = true ∧ aOk P ops i = true := by
    intro i o hi
    have := h i (List.mem_range.2 (Array.getElem?_eq_some_iff.1 hi).1)
    simp only [Bool.and_eq_true, List.all_eq_true, decide_eq_true_eq] at this
    obtain ⟨⟨⟨h1, h2⟩, h3⟩, h4⟩ := this
    exact ⟨h1, fun j o' hj => h2 j (List.mem_range.2 (Array.getElem?_eq_some_iff.1 hj).1), h3, h4⟩
  refine ⟨fun i d hd => ?_, fun i o d hi hd => ?_, fun i j o o' d hne hi hj hd => ?_, fun i j o o' d hne hi hj hd hl => ?_, fun i j o o' hi hj hk hk' hd => ?_, fun i o t hi ho => ?_⟩
  · cases hi : ops[i]? with
    | none => simp [deps, hi] at hd
    | some o => exact (h' i o hi).1 d hd
  · have := (h' i o hi).2.1 i o hi
    simp only [pairOk, hi, hd, if_true] at this
    simpa using this
  · have := (h' i o hi).2.1 j o' hj
    simp only [pairOk, hi, hj, hd, if_neg hne, Bool.and_eq_true] at this
    simpa using this.1
  · have := (h' i o hi).2.1 j o' hj
    simp only [pairOk, hi, hj, hd, if_neg hne, Bool.and_eq_true, Bool.or_eq_true] at this
    rcases this.2 with (h | h) | h
    · simp [hl] at h
    · exact .inl (by simpa using h)
    · simp only [Bool.and_eq_true, decide_eq_true_eq] at h
      exact .inr h
  · have := (h' i o hi).2.2.1
    simp only [uDepOk, kdAt_of hi, hk, Bool.or_eq_true, List.all_eq_true, decide_eq_true_eq] at this
    rcases this with h1 | h1
    · exact absurd rfl h1
    · have := h1 j hd
      simp only [kdAt_of hj, hk'] at this
      rcases this with h1 | h1
      · exact absurd rfl h1
      · obtain ⟨k, h2, h3⟩ := List.any_eq_true.1 h1
        simp only [Bool.and_eq_true, decide_eq_true_eq] at h3
        have hk2 : k < ops.size := List.mem_range.1 h2
        refine ⟨k, _, Array.getElem?_eq_getElem hk2, ?_, h3.1.2, h3.2⟩
        have := h3.1.1
        rwa [kdAt_of (Array.getElem?_eq_getElem hk2)] at this
  · have := (h' i o hi).2.2.2
    simp only [aOk, hi, ho, Bool.and_eq_true] at this
    obtain ⟨hg, this⟩ := this
    refine ⟨by simpa using hg, ?_⟩
    split at this
    · rename_i z hz
      rw [Bool.and_eq_true] at this
      exact ⟨z, hz, this.1, this.2⟩
    · cases this

theorem anc_L (hs : Closed ops (Li listed)) {i j : Nat} (h : ancB (masks ops ops.size) i j = true) (hd : ∀ d ∈ deps ops i, Li listed d) : Li listed j := masks_anc ops _ i j h _ hs hd
theorem anc_D (hs : ∀ i ∈ D, i < ops.size ∧ ∀ d ∈ deps ops i, d ∈ D) {i j : Nat} (h : ancB (masks ops ops.size) i j = true) (hd : ∀ d ∈ deps ops i, d ∈ D) : j ∈ D := masks_anc ops _ i j h (· ∈ D) (fun k hk => (hs k hk).2) hd

/-- A new entry of the plan does not touch what waits. -/
theorem upend_put (hR : Reg P ops) (hD : ∀ i ∈ D, i < ops.size ∧ ∀ d ∈ deps ops i, d ∈ D) {i j : Nat} {o o' : Oper} (hi : ops[i]? = some o) (hj : ops[j]? = some o') (hiD : i ∉ D) (hjD : j ∈ D) (hna : kd o.op = .n → ancB (masks ops ops.size) i j = true → False) {v : Value}
    (h : UPend P G ops env σ o') : UPend P G ops (aput o.dst v env) σ o' := by
  have hne : i ≠ j := fun e => hiD (e ▸ hjD)
  have hl : ∀ d, o.dst = some d → d ∉ o'.looksAt ops := fun d hd hx => (hR.look i j o o' d hne hi hj hd hx).elim (fun h => hiD ((hD j hjD).2 i h)) fun h => hna h.1 h.2
  obtain ⟨u, h1, h2⟩ := h.at_
  refine ⟨u, ?_, fun d hd hlt => ?_⟩
  · rw [awanted_put o' env o.dst v hl, uOk_put o' env o.dst v hl, aop_put o' env o.dst v σ hl]
    exact h1
  · cases ho : o.dst with
    | none => exact h2 d hd (by simpa [ho, aput] using hlt)
    | some e =>
      have hne2 : e ≠ d := fun h3 => hR.ne i j o o' e hne hi hj ho (h3 ▸ hd)
      rw [ho] at hlt
      simp only [aput, List.length_set] at hlt
      simp only [aput, List.getD_eq_getElem?_getD, List.getElem?_set_ne hne2]
      rw [← List.getD_eq_getElem?_getD]
      exact h2 d hd hlt
theorem len_put (dst : Option Tmp) (v : Value) (env : List Value) : (aput dst v env).length = env.length := by cases dst <;> simp [aput]
theorem size_put (a : Act) (dst : Option Tmp) (v : Value) : (a.put dst v).tmps.size = a.tmps.size := by cases dst <;> simp [Act.put]
theorem getD_aput_ne {dst : Option Tmp} {v : Value} {env : List Value} {t : Nat} (h : dst ≠ some t) : (aput dst v env).getD t undef = env.getD t undef := by
  cases dst with
  | none => rfl
  | some d =>
    have : d ≠ t := fun e => h (e ▸ rfl)
    simp only [aput, List.getD_eq_getElem?_getD, List.getElem?_set_ne this]
theorem getD_aput_eq {d : Tmp} {v : Value} {env : List Value} (h : d < env.length) : (aput (some d) v env).getD d undef = v := by
  simp [aput, List.getD_eq_getElem?_getD, h]
theorem getD_put_ne {dst : Option Tmp} {v : Value} {a : Act} {t : Nat} (h : dst ≠ some t) : (a.put dst v).tmps.getD t undef = a.tmps.getD t undef := by
  cases dst with
  | none => rfl
  | some d =>
    have : d ≠ t := fun e => h (e ▸ rfl)
    simp [Act.put, Array.getElem?_setIfInBounds_ne this]
theorem getD_put_eq {d : Tmp} {v : Value} {a : Act} (h : d < a.tmps.size) : (a.put (some d) v).tmps.getD d undef = v := by
  simp [Act.put, h]
theorem getD_put_out {d : Tmp} {v : Value} {a : Act} (h : ¬ d < a.tmps.size) : (a.put (some d) v).tmps.getD d undef = undef := by
  simp [Act.put, h]
theorem getD_aput_out {d : Tmp} {v : Value} {env : List Value} (h : ¬ d < env.length) : (aput (some d) v env).getD d undef = undef := by
  simp [aput, List.getD_eq_getElem?_getD, h]
end
end Go.AM
namespace Go.AM
open Go

section
variable {P : Program} {G : Cfg} {call : ACall} {ops : Array Oper} {φ0 : PMap} {σ0 : St} {w0 : World} {fin : AExit × List Value × St} {ds : List Deferred}
  {listed : Array Bool} {a : Act} {w : World} {D : List Nat} {rest : List (Nat × List Nat)} {env : List Value} {σ : St} {φ : PMap} {pb : Nat → Nat}

theorem rel_look (hR : Reg P ops) (nL : ∀ (i : Nat) (o : Oper), ops[i]? = some o → kd o.op = .n → (Li listed i ↔ i ∈ D)) {i : Nat} {o : Oper} (hi : ops[i]? = some o) (hdL : ∀ d ∈ deps ops i, Li listed d) (hdD : ∀ d ∈ deps ops i, d ∈ D)
    (tm : ∀ t, (∀ (i : Nat) (o : Oper), ops[i]? = some o → o.dst = some t → (Li listed i ↔ i ∈ D)) → RV φ σ.n (env.getD t undef) (a.tmps.getD t undef)) {t : Tmp} (ht : t ∈ o.looksAt ops) :
    RV φ σ.n (env.getD t undef) (a.tmps.getD t undef) := by
  refine tm t fun j o' hj hd => ?_
  by_cases hne : j = i
  · subst hne
    rw [hi] at hj
    injection hj with hj
    subst hj
    exact absurd ht (hR.own j o t hi hd)
  · rcases hR.look j i o' o t hne hj hi hd ht with this | this
    · exact ⟨fun _ => hdD j this, fun _ => hdL j this⟩
    · exact nL j o' hj this.1
theorem rel_ev (hg : GL G φ σ) {o : Oper} (hgd : ∀ y ∈ o.op.operands, opndGood G y = true) (h : ∀ t ∈ o.looksAt ops, RV φ σ.n (env.getD t undef) (a.tmps.getD t undef)) :
    ∀ x, x ∈ o.op.operands → RV φ σ.n (ev G env x) (a.eval x) := by
  intro x hx
  cases x with
  | tmp t => exact h t (look_operand hx)
  | const v => exact rv_clean (hgd _ hx) φ σ.n
  | global g =>
    have hk := hgd _ hx
    cases hk' : G.gl g with
    | none => simp [opndGood, hk'] at hk
    | some k =>
      obtain ⟨h1, h2⟩ := hg g k hk'
      have := RV.ptr (φ := φ) (n := σ.n) k 0 h1 (by rw [h2])
      simp only [h2] at this
      simpa [ev, hk', Act.eval] using this
  | func f => exact .func _ .nil .nil
theorem rel_wanted {o : Oper} (hlen : env.length = a.tmps.size) (h : ∀ t ∈ o.looksAt ops, RV φ σ.n (env.getD t undef) (a.tmps.getD t undef)) :
    Region.wanted o (ayield ops env) = Region.wanted o (yielded ops a.tmps) := by
  unfold Region.wanted
  cases hg : o.guard with
  | none => rfl
  | some gw =>
    obtain ⟨g, want⟩ := gw
    have hy : ayield ops env g = yielded ops a.tmps g := by
      unfold ayield yielded
      cases ht : (ops[g]?).bind (·.dst) with
      | none => rfl
      | some t =>
        have hl : t ∈ o.looksAt ops := by simp [Oper.looksAt, hg, ht]
        have hr := h t hl
        simp only [Option.bind_some]
        by_cases hlt : t < env.length
        · have h1 : env[t]? = some (env.getD t undef) := by rw [List.getD_eq_getElem?_getD, List.getElem?_eq_getElem hlt]; rfl
          have hlt2 : t < a.tmps.size := by rw [← hlen]; exact hlt
          have h2 : a.tmps[t]? = some (a.tmps.getD t undef) := by simp [hlt2]
          rw [h1, h2]
          generalize env.getD t undef = x at hr
          generalize a.tmps.getD t undef = y at hr
          cases hr <;> rfl
        · have h1 : env[t]? = none := by simpa using hlt
          have h2 : a.tmps[t]? = none := Array.getElem?_eq_none (by rw [← hlen]; exact Nat.le_of_not_lt hlt)
          rw [h1, h2]
    simp only [hy]

theorem li_set {i j : Nat} (hs : i < listed.size) : Li (listed.setIfInBounds i true) j ↔ j = i ∨ Li listed j := by
  by_cases h : j = i
  · subst h
    simp [Li, hs]
  · have : (listed.setIfInBounds i true).getD j false = listed.getD j false := getD_set_ne false (fun e => h e.symm)
    simp only [Li, this, h, false_or]
theorem closed_set (hs : listed.size = ops.size) (hc : Closed ops (Li listed)) {i : Nat} (hi : i < ops.size) (hd : ∀ d ∈ deps ops i, Li listed d) : Closed ops (Li (listed.setIfInBounds i true)) := by
  intro k hk d hdk
  rw [li_set (by omega)] at hk ⊢
  rcases hk with rfl | hk
  · exact .inr (hd d hdk)
  · exact .inr (hc k hk d hdk)

/-- The machine does an operation that changes nothing, which the plan had behind it. -/
theorem Inv.stepU (I : Inv P G call ops φ0 σ0 w0 fin ds listed a w D rest env σ φ pb) (hR : Reg P ops) {i : Nat} {o : Oper} (hi : ops[i]? = some o) (hk : kd o.op = .u) (hiD : i ∈ D) (hiL : ¬ Li listed i)
    (hd : ∀ d ∈ deps ops i, Li listed d) {v : Value} {v' : Value} (hv : RV φ σ.n v v') (hput : ∀ d, o.dst = some d → d < env.length → env.getD d undef = v) (n : Nat) :
    Inv P G call ops φ0 σ0 w0 fin ds (listed.setIfInBounds i true) (a.put o.dst v') { w with drawn := n } D rest env σ φ pb := by
  have hlt : i < ops.size := (Array.getElem?_eq_some_iff.1 hi).1
  have hlt2 : i < listed.size := by rw [I.size]; exact hlt
  have hf : Frm φ σ w φ σ { w with drawn := n } := Frm.heap rfl rfl rfl rfl
  refine ⟨by simp [I.size], closed_set I.size I.closedL hlt hd, I.plan, I.closedD, I.frm.trans hf, I.rh.heap rfl, I.run, ?_, ?_, ?_, ?_, ?_, ?_, ?_, ?_, by rw [put_defers]; exact I.dfr⟩
  · intro j o' hj hk'
    rw [li_set hlt2, ← I.nL j o' hj hk']
    refine ⟨fun h => h.resolve_left fun e => ?_, .inr⟩
    subst e
    rw [hi] at hj; injection hj with hj; subst hj
    rw [hk] at hk'; cases hk'
  · intro j o' hj hk' hl
    rw [li_set hlt2] at hl
    rcases hl with rfl | hl
    · exact hiD
    · exact I.uL j o' hj hk' hl
  · intro j o' hj hk' hjD
    rw [li_set hlt2]
    exact .inr (I.aL j o' hj hk' hjD)
  · rw [size_put]; exact I.len
  · intro t ht
    by_cases he : o.dst = some t
    · rw [he]
      by_cases hlt3 : t < env.length
      · rw [hput t he hlt3, getD_put_eq (by rw [← I.len]; exact hlt3)]
        exact hv
      · rw [getD_put_out (by rw [← I.len]; exact hlt3), List.getD_eq_getElem?_getD, List.getElem?_eq_none (Nat.le_of_not_lt hlt3)]
        exact .undef_
    · rw [getD_put_ne he]
      refine I.tm t fun j o' hj hd' => ?_
      rw [← ht j o' hj hd', li_set hlt2]
      refine ⟨.inr, fun h => h.resolve_left fun e => ?_⟩
      subst e
      rw [hi] at hj; injection hj with hj; subst hj
      exact he hd'
  · intro j o' hj hk' hjD hjL
    rw [li_set hlt2] at hjL
    exact I.pu j o' hj hk' hjD fun h => hjL (.inr h)
  · intro j o' hj hk' hl hjD
    rw [li_set hlt2] at hl
    have hl' : Li listed j := hl.resolve_left fun e => by subst e; exact hjD hiD
    obtain ⟨t, z, h1, h2, h3, h4, h5, h6⟩ := I.pa j o' hj hk' hl' hjD
    have hne : i ≠ j := fun e => hjD (e ▸ hiD)
    refine ⟨t, z, h1, h2, h3, h4, h5, fun d hd' hsz => ?_⟩
    rw [size_put] at hsz
    rw [getD_put_ne fun e => hR.ne i j o o' d hne hi hj e hd']
    exact h6 d hd' hsz
  · intro j k o1 o2 hj hk1 ha1 ha2 hl1 hd1 hl2 hd2
    rw [li_set hlt2] at hl1 hl2
    exact I.inj j k o1 o2 hj hk1 ha1 ha2 (hl1.resolve_left fun e => by subst e; exact hd1 hiD) hd1 (hl2.resolve_left fun e => by subst e; exact hd2 hiD) hd2
end
end Go.AM
namespace Go.AM
open Go

section
variable {P : Program} {G : Cfg} {call : ACall} {ops : Array Oper} {φ0 : PMap} {σ0 : St} {w0 : World} {fin : AExit × List Value × St} {ds : List Deferred}
  {listed : Array Bool} {a : Act} {w : World} {D : List Nat} {rest : List (Nat × List Nat)} {env : List Value} {σ : St} {φ : PMap} {pb : Nat → Nat}

theorem plan_head {i : Nat} {re : List Nat} {ms : List Nat} (h : planOk ops ms D ((i, re) :: rest) = true) : i < ops.size ∧ i ∉ D ∧ (∀ d ∈ deps ops i, d ∈ D) ∧ planOk ops ms (i :: D) rest = true := by
  simp only [planOk, Bool.and_eq_true, decide_eq_true_eq] at h
  obtain ⟨⟨⟨⟨h1, h2⟩, h3⟩, _⟩, h4⟩ := h
  exact ⟨h1, by simpa using h2, by simpa using h3, h4⟩
theorem plan_a {i : Nat} {re : List Nat} {ms : List Nat} (h : planOk ops ms D ((i, re) :: rest) = true) (hk : kdAt ops i = .a) : saturated ops D = true ∧ guardless ops i = true ∧ ∀ j ∈ D, kdAt ops j = .u → ancB ms i j = true ∨ j ∈ re := by
  simp only [planOk, hk, Bool.and_eq_true] at h
  obtain ⟨⟨_, ⟨h1, h2⟩, h3⟩, _⟩ := h
  refine ⟨h1, h2, fun j hj hu => ?_⟩
  have := List.all_eq_true.1 h3 j hj
  simpa [hu] using this
theorem plan_n {i : Nat} {re : List Nat} {ms : List Nat} (h : planOk ops ms D ((i, re) :: rest) = true) (hk : kdAt ops i = .n) : saturated ops D = true ∧ (∀ j ∈ D, kdAt ops j = .u → ancB ms i j = true ∨ j ∈ re) ∧ ∀ j ∈ D, kdAt ops j ≠ .u → ancB ms i j = true := by
  simp only [planOk, hk, Bool.and_eq_true] at h
  obtain ⟨⟨_, h1, h3⟩, _⟩ := h
  refine ⟨h1, fun j hj hu => ?_, fun j hj hu => ?_⟩
  · have := List.all_eq_true.1 h3 j hj
    simpa [hu] using this
  · have := List.all_eq_true.1 h3 j hj
    simpa [hu] using this
theorem closedD_cons (hD : ∀ i ∈ D, i < ops.size ∧ ∀ d ∈ deps ops i, d ∈ D) {i : Nat} (h1 : i < ops.size) (h3 : ∀ d ∈ deps ops i, d ∈ D) : ∀ j ∈ i :: D, j < ops.size ∧ ∀ d ∈ deps ops j, d ∈ i :: D := by
  intro j hj
  rcases List.mem_cons.1 hj with rfl | hj
  · exact ⟨h1, fun d hd => List.mem_cons_of_mem _ (h3 d hd)⟩
  · exact ⟨(hD j hj).1, fun d hd => List.mem_cons_of_mem _ ((hD j hj).2 d hd)⟩

/-- The plan does an operation that changes nothing. -/
theorem Inv.advance {i : Nat} {re : List Nat} (I : Inv P G call ops φ0 σ0 w0 fin ds listed a w D ((i, re) :: rest) env σ φ pb) (hR : Reg P ops) (hk : kdAt ops i = .u) :
    ∃ env1, Inv P G call ops φ0 σ0 w0 fin ds listed a w (i :: D) rest env1 σ φ pb := by
  obtain ⟨h1, h2, h3, h4⟩ := plan_head I.plan
  have hi : ops[i]? = some ops[i] := Array.getElem?_eq_getElem h1
  generalize ops[i] = o at hi
  rw [kdAt_of hi] at hk
  have hiL : ¬ Li listed i := fun h => h2 (I.uL i o hi hk h)
  have hrun := I.run
  simp only [runPlan, hi, hk] at hrun
  have hl : ∀ d, o.dst = some d → d ∉ o.looksAt ops := fun d hd => hR.own i o d hi hd
  have mk : ∀ v, runPlan P G call ops rest (aput o.dst v env) σ = some fin → (if Region.wanted o (ayield ops env) = true then uOk P (ev G env) o.op = true ∧ ∃ σ', aop P (ev G env) o σ = some (.value v, σ') else v = undef) →
      Inv P G call ops φ0 σ0 w0 fin ds listed a w (i :: D) rest (aput o.dst v env) σ φ pb := by
    intro v hrun hv
    have hne : ∀ j, j ≠ i → (j ∈ i :: D ↔ j ∈ D) := fun j hj => by simp [hj]
    refine ⟨I.size, I.closedL, h4, closedD_cons I.closedD h1 h3, I.frm, I.rh, hrun, ?_, ?_, ?_, ?_, ?_, ?_, ?_, ?_, I.dfr⟩
    · intro j o' hj hk'
      rw [hne j fun e => by subst e; rw [hi] at hj; injection hj with hj; subst hj; rw [hk] at hk'; cases hk']
      exact I.nL j o' hj hk'
    · intro j o' hj hk' hl'
      exact List.mem_cons_of_mem _ (I.uL j o' hj hk' hl')
    · intro j o' hj hk' hjD
      rw [hne j fun e => by subst e; rw [hi] at hj; injection hj with hj; subst hj; rw [hk] at hk'; cases hk'] at hjD
      exact I.aL j o' hj hk' hjD
    · rw [len_put]; exact I.len
    · intro t ht
      have he : o.dst ≠ some t := fun e => hiL ((ht i o hi e).2 (by simp))
      rw [getD_aput_ne he]
      refine I.tm t fun j o' hj hd => ?_
      rw [ht j o' hj hd, hne j fun e => by subst e; rw [hi] at hj; injection hj with hj; subst hj; exact he hd]
    · intro j o' hj hk' hjD hjL
      rcases List.mem_cons.1 hjD with rfl | hjD
      · rw [hi] at hj; injection hj with hj; subst hj
        refine ⟨v, ?_, fun d hd hlt => ?_⟩
        · rw [awanted_put o env o.dst v hl, uOk_put o env o.dst v hl, aop_put o env o.dst v σ hl]
          exact hv
        · rw [len_put] at hlt
          rw [hd, getD_aput_eq hlt]
      · exact upend_put hR I.closedD hi hj h2 hjD (fun e => by rw [hk] at e; cases e) (I.pu j o' hj hk' hjD hjL)
    · intro j o' hj hk' hl' hjD
      exact I.pa j o' hj hk' hl' fun h => hjD (List.mem_cons_of_mem _ h)
    · intro j k o1 o2 hj hk1 ha1 ha2 hl1 hd1 hl2 hd2
      exact I.inj j k o1 o2 hj hk1 ha1 ha2 hl1 (fun h => hd1 (List.mem_cons_of_mem _ h)) hl2 fun h => hd2 (List.mem_cons_of_mem _ h)
  split at hrun
  · rename_i hw
    split at hrun
    · rename_i hu
      split at hrun
      · rename_i v σ' hv
        exact ⟨_, mk v hrun (by rw [if_pos hw]; exact ⟨hu, σ', hv⟩)⟩
      · cases hrun
    · cases hrun
  · rename_i hw
    exact ⟨_, mk undef hrun (by rw [if_neg hw])⟩

theorem recheck_at {re : List Nat} (h : arecheck P G ops env σ re = true) : ∀ (j : Nat) (o : Oper), j ∈ re → ops[j]? = some o → UPend P G ops env σ o := by
  induction re with
  | nil => intro j o hj; cases hj
  | cons k l ih =>
    intro j o hj hjo
    simp only [arecheck, Bool.and_eq_true] at h
    rcases List.mem_cons.1 hj with rfl | hj
    · have h1 := h.1
      simp only [hjo] at h1
      have same : ∀ v, sameAt o.dst v env = true → ∀ d, o.dst = some d → d < env.length → env.getD d undef = v := by
        intro v hs d hd hlt
        simp only [sameAt, hd, hlt, decide_true, Bool.not_true, Bool.false_or] at hs
        exact (sameV_eq _ _ _ hs).symm
      split at h1
      · rename_i hw
        rw [Bool.and_eq_true] at h1
        obtain ⟨h2, h3⟩ := h1
        split at h3
        · rename_i v σ' hv
          exact ⟨v, by rw [if_pos hw]; exact ⟨h2, σ', hv⟩, same v h3⟩
        · cases h3
      · rename_i hw
        exact ⟨undef, by rw [if_neg hw], same undef h1⟩
    · exact ih h.2 j o hj hjo

theorem APend.frm {φ1 : PMap} {σ1 : St} {w1 : World} {tmps tmps1 : Array Value} {o : Oper} {b : Nat} (h : APend P φ σ w w0 tmps o b) (hf : Frm φ σ w φ1 σ1 w1) (hs : tmps1.size = tmps.size)
    (ht : ∀ d, o.dst = some d → tmps1.getD d undef = tmps.getD d undef) : APend P φ1 σ1 w1 w0 tmps1 o b := by
  obtain ⟨t, z, h1, h2, h3, h4, h5, h6⟩ := h
  have hlt : b < w.heap.size := (Array.getElem?_eq_some_iff.1 h3).1
  refine ⟨t, z, h1, h2, ?_, h4, ?_, fun d hd hsz => ?_⟩
  · rw [hf.block b hlt fun ⟨k, x, hk, hx, e⟩ => h5 k x hk (live_of_own hx) e]
    exact h3
  · intro k x hk hx
    rcases hf.lives k x hk hx with ⟨g1, x0, g2, g3⟩ | ⟨g1, g2 | ⟨k2, x2, g3, g4, g5⟩⟩
    · rw [(hf.ext k g1).1]; exact h5 k x0 g2 g3
    · omega
    · exact fun e => h5 k2 x2 g3 (live_of_own g4) (g5.trans e)
  · rw [ht d hd]
    exact h6 d hd (by rw [← hs]; exact hsz)
end
end Go.AM
namespace Go.AM
open Go

section
variable {P : Program} {G : Cfg} {call : ACall} {ops : Array Oper} {φ0 : PMap} {σ0 : St} {w0 : World} {fin : AExit × List Value × St} {ds : List Deferred}
  {listed : Array Bool} {a : Act} {w : World} {D : List Nat} {rest : List (Nat × List Nat)} {env : List Value} {σ : St} {φ : PMap} {pb : Nat → Nat}

theorem kd_a {o : Op} (h : kd o = .a) : ∃ t, o = .alloc t := by
  unfold kd at h
  split at h <;> first | (cases h; done) | exact ⟨_, rfl⟩

/-- The plan does an allocation that the machine has done already. -/
theorem Inv.adopt {i : Nat} {re : List Nat} (I : Inv P G call ops φ0 σ0 w0 fin ds listed a w D ((i, re) :: rest) env σ φ pb) (hR : Reg P ops) (hk : kdAt ops i = .a) (hiL : Li listed i) :
    ∃ env1 σ1 φ1, Inv P G call ops φ0 σ0 w0 fin ds listed a w (i :: D) rest env1 σ1 φ1 pb := by
  obtain ⟨h1, h2, h3, h4⟩ := plan_head I.plan
  obtain ⟨_, _, hre⟩ := plan_a I.plan hk
  have hi : ops[i]? = some ops[i] := Array.getElem?_eq_getElem h1
  generalize ops[i] = o at hi
  rw [kdAt_of hi] at hk
  obtain ⟨t, z, ht, hz, hb, hw0, hnot, htm⟩ := I.pa i o hi hk hiL h2
  obtain ⟨hgd, z', hz', hcl, hone⟩ := hR.zero i o t hi ht
  rw [hz] at hz'
  injection hz' with hz'
  subst hz'
  have hwd : Region.wanted o (ayield ops env) = true := by simp [Region.wanted, hgd]
  have hrun := I.run
  simp only [runPlan, hi, hk, hwd, if_true] at hrun
  have haop : aop P (ev G env) o σ = if zchk P t then vmap (arun P (Instr.alloc t true (.tuple #[])) σ) else none := by
    unfold aop
    rw [ht]
  rw [haop] at hrun
  by_cases hzc : zchk P t = true
  case neg => rw [if_neg hzc] at hrun; cases hrun
  rw [if_pos hzc] at hrun
  cases hal : vmap (arun P (Instr.alloc t true (.tuple #[])) σ) with
  | none => rw [hal] at hrun; cases hrun
  | some r =>
    obtain ⟨r, σ1⟩ := r
    obtain ⟨z2, g1, g2, g3, g4⟩ := alloc_abs hal
    rw [hz] at g1
    injection g1 with g1
    subst g1 g3 g4
    rw [hal] at hrun
    simp only at hrun
    split at hrun
    case isFalse => cases hrun
    rename_i hrc
    have hrc' := recheck_at hrc
    have hatn : (φ.new σ.n ⟨pb i, 0, none⟩ z.cells.size ((szOf P t).getD 0)).at_ σ.n = ⟨pb i, 0, none⟩ := by simp [PMap.new]
    have hat : ∀ k, k ≠ σ.n → (φ.new σ.n ⟨pb i, 0, none⟩ z.cells.size ((szOf P t).getD 0)).at_ k = φ.at_ k := fun k hk => by simp [PMap.new, hk]
    have hne : ∀ j, j ≠ i → (j ∈ i :: D ↔ j ∈ D) := fun j hj => by simp [hj]
    refine ⟨_, _, φ.new σ.n ⟨pb i, 0, none⟩ z.cells.size ((szOf P t).getD 0), I.size, I.closedL, h4, closedD_cons I.closedD h1 h3, I.frm.adopt hw0 _ _ _, I.rh.adopt hb hone hcl hnot, hrun, ?_, ?_, ?_, ?_, ?_, ?_, ?_, ?_, I.dfr⟩
    · intro j o' hj hk'
      rw [hne j fun e => by subst e; rw [hi] at hj; injection hj with hj; subst hj; rw [hk] at hk'; cases hk']
      exact I.nL j o' hj hk'
    · intro j o' hj hk' hl'
      exact List.mem_cons_of_mem _ (I.uL j o' hj hk' hl')
    · intro j o' hj hk' hjD
      by_cases e : j = i
      · subst e; exact hiL
      · rw [hne j e] at hjD
        exact I.aL j o' hj hk' hjD
    · rw [len_put]; exact I.len
    · intro t' ht'
      by_cases he : o.dst = some t'
      · rw [he]
        by_cases hlt : t' < env.length
        · rw [getD_aput_eq hlt, htm t' he (by rw [← I.len]; exact hlt)]
          have := RV.ptr (φ := φ.new σ.n ⟨pb i, 0, none⟩ z.cells.size ((szOf P t).getD 0)) (n := σ.n + 1) σ.n 0 (Nat.lt_succ_self _) (by rw [hatn])
          rw [hatn] at this
          exact this
        · rw [getD_aput_out hlt]
          have : a.tmps.getD t' undef = undef := by
            have : ¬ t' < a.tmps.size := by rw [← I.len]; exact hlt
            simp [this]
          rw [this]
          exact .undef_
      · rw [getD_aput_ne he]
        refine (I.tm t' fun j o' hj hd => ?_).mono (PMap.new_ext _ _ _ _ _) (Nat.le_succ _)
        rw [ht' j o' hj hd, hne j fun e => by subst e; rw [hi] at hj; injection hj with hj; subst hj; exact he hd]
    · intro j o' hj hk' hjD hjL
      rcases List.mem_cons.1 hjD with rfl | hjD
      · exact absurd hiL hjL
      · rcases hre j hjD (by rw [kdAt_of hj]; exact hk') with h | h
        · exact absurd (anc_L I.closedL h (I.closedL i hiL)) hjL
        · exact hrc' j o' h hj
    · intro j o' hj hk' hl' hjD
      have hjD' : j ∉ D := fun h => hjD (List.mem_cons_of_mem _ h)
      have hji : j ≠ i := fun e => hjD (by simp [e])
      obtain ⟨t2, z2, k1, k2, k3, k4, k5, k6⟩ := I.pa j o' hj hk' hl' hjD'
      refine ⟨t2, z2, k1, k2, k3, k4, fun k x hkx hx => ?_, k6⟩
      by_cases e : k = σ.n
      · subst e
        rw [hatn]
        exact fun e => hji (I.inj j i o' o hj hi hk' hk hl' hjD' hiL h2 e.symm)
      · rw [hat k e]
        rw [St.get_alloc_ne σ _ e] at hkx
        exact k5 k x hkx hx
    · intro j k o1 o2 hj hk1 ha1 ha2 hl1 hd1 hl2 hd2
      exact I.inj j k o1 o2 hj hk1 ha1 ha2 hl1 (fun h => hd1 (List.mem_cons_of_mem _ h)) hl2 fun h => hd2 (List.mem_cons_of_mem _ h)

theorem RH.grow (hr : RH P φ σ w) (ob : Obj) : RH P φ σ (w.alloc ob) ∧ Frm φ σ w φ σ (w.alloc ob) := by
  have hsz : (w.alloc ob).heap.size = w.heap.size + 1 := by show (w.heap.push ob).size = _; simp
  have hold : ∀ b, b < w.heap.size → (w.alloc ob).heap[b]? = w.heap[b]? := fun b hb => by
    show (w.heap.push ob)[b]? = _
    rw [Array.getElem?_push, if_neg (by omega)]
  refine ⟨⟨fun k x hk => ?_, hr.apart⟩, ⟨Ext.refl _ _, Nat.le_refl _, by omega, rfl, rfl, rfl, fun b hb _ => hold b hb, fun b h => .inr h, fun k x hk hx => .inl ⟨St.get_lt hk, x, hk, hx⟩⟩⟩
  by_cases hl : live x = true
  · exact RO.keep (hold _ (hr.inside k x hk hl)) (hr.objs k x hk)
  · cases x <;> simp_all [live, RO]

/-- The machine does an allocation ahead of the plan. -/
theorem Inv.stepA (I : Inv P G call ops φ0 σ0 w0 fin ds listed a w D rest env σ φ pb) (hR : Reg P ops) {i : Nat} {o : Oper} (hi : ops[i]? = some o) (hk : kd o.op = .a) (hiL : ¬ Li listed i)
    (hd : ∀ d ∈ deps ops i, Li listed d) {t : TypeId} {z : Value} (ht : o.op = .alloc t) (hz : zeroOf P t = some z) :
    Inv P G call ops φ0 σ0 w0 fin ds (listed.setIfInBounds i true) (a.put o.dst (.pointer (some ⟨w.heap.size, 0, none⟩))) (w.alloc (.cells z.cells t)) D rest env σ φ (fun j => if j = i then w.heap.size else pb j) := by
  have hlt : i < ops.size := (Array.getElem?_eq_some_iff.1 hi).1
  have hlt2 : i < listed.size := by rw [I.size]; exact hlt
  have hiD : i ∉ D := fun h => hiL (I.aL i o hi hk h)
  obtain ⟨hr1, hf⟩ := I.rh.grow (.cells z.cells t)
  have sep : ∀ {j : Nat} {o' : Oper}, ops[j]? = some o' → kd o'.op ≠ .a → j ≠ i := fun hj hk' e => by
    subst e; rw [hi] at hj; injection hj with hj; subst hj; exact hk' hk
  refine ⟨by simp [I.size], closed_set I.size I.closedL hlt hd, I.plan, I.closedD, I.frm.trans hf, hr1, I.run, ?_, ?_, ?_, ?_, ?_, ?_, ?_, ?_, by rw [put_defers]; exact I.dfr⟩
  · intro j o' hj hk'
    rw [li_set hlt2, ← I.nL j o' hj hk']
    exact ⟨fun h => h.resolve_left (sep hj (by rw [hk']; decide)), .inr⟩
  · intro j o' hj hk' hl
    rw [li_set hlt2] at hl
    exact I.uL j o' hj hk' (hl.resolve_left (sep hj (by rw [hk']; decide)))
  · intro j o' hj hk' hjD
    rw [li_set hlt2]
    exact .inr (I.aL j o' hj hk' hjD)
  · rw [size_put]; exact I.len
  · intro t' ht'
    have he : o.dst ≠ some t' := fun e => hiD ((ht' i o hi e).1 (by rw [li_set hlt2]; exact .inl rfl))
    rw [getD_put_ne he]
    refine I.tm t' fun j o' hj hd' => ?_
    rw [← ht' j o' hj hd', li_set hlt2]
    refine ⟨.inr, fun h => h.resolve_left fun e => ?_⟩
    subst e
    rw [hi] at hj; injection hj with hj; subst hj
    exact he hd'
  · intro j o' hj hk' hjD hjL
    rw [li_set hlt2] at hjL
    exact I.pu j o' hj hk' hjD fun h => hjL (.inr h)
  · intro j o' hj hk' hl hjD
    by_cases e : j = i
    · subst e
      rw [hi] at hj; injection hj with hj; subst hj
      simp only [if_true]
      refine ⟨t, z, ht, hz, ?_, I.frm.size_le, fun k x hkx hx => ?_, fun d hd' hsz => ?_⟩
      · show (w.heap.push _)[w.heap.size]? = _
        simp
      · have := I.rh.inside k x hkx hx
        omega
      · rw [size_put] at hsz
        rw [hd', getD_put_eq hsz]
    · rw [li_set hlt2] at hl
      simp only [if_neg e]
      refine APend.frm (I.pa j o' hj hk' (hl.resolve_left e) hjD) hf (size_put _ _ _) fun d hd' => ?_
      exact getD_put_ne fun h => hR.ne i j o o' d (fun h => e h.symm) hi hj h hd'
  · intro j k o1 o2 hj hk1 ha1 ha2 hl1 hd1 hl2 hd2 he
    rw [li_set hlt2] at hl1 hl2
    have lt : ∀ {j : Nat} {o' : Oper}, ops[j]? = some o' → kd o'.op = .a → Li listed j → j ∉ D → pb j < w.heap.size := fun hj hk' hl hjD => by
      obtain ⟨_, _, _, _, h3, _⟩ := I.pa _ _ hj hk' hl hjD
      exact (Array.getElem?_eq_some_iff.1 h3).1
    by_cases e1 : j = i <;> by_cases e2 : k = i
    · exact e1.trans e2.symm
    · simp only [e1, e2, if_true, if_false] at he
      have := lt hk1 ha2 (hl2.resolve_left e2) hd2
      omega
    · simp only [e1, e2, if_true, if_false] at he
      have := lt hj ha1 (hl1.resolve_left e1) hd1
      omega
    · simp only [e1, e2, if_false] at he
      exact I.inj j k o1 o2 hj hk1 ha1 ha2 (hl1.resolve_left e1) hd1 (hl2.resolve_left e2) hd2 he
end
end Go.AM
namespace Go.AM
open Go

section
variable {P : Program} {G : Cfg} {call : ACall} {ops : Array Oper} {φ0 : PMap} {σ0 : St} {w0 : World} {fin : AExit × List Value × St} {ds : List Deferred}
  {listed : Array Bool} {a : Act} {w : World} {D : List Nat} {rest : List (Nat × List Nat)} {env : List Value} {σ : St} {φ : PMap} {pb : Nat → Nat}

/-- Both do an operation that may change something. -/
theorem Inv.stepN {i : Nat} {re : List Nat} (I : Inv P G call ops φ0 σ0 w0 fin ds listed a w D ((i, re) :: rest) env σ φ pb) (hR : Reg P ops) {o : Oper} (hi : ops[i]? = some o) (hk : kd o.op = .n) (hiL : ¬ Li listed i)
    (hd : ∀ d ∈ deps ops i, Li listed d) {φ1 : PMap} {σ1 : St} {w1 : World} {v v' : Value} (hf : Frm φ σ w φ1 σ1 w1) (hr1 : RH P φ1 σ1 w1) (hv : RV φ1 σ1.n v v') (hrun : runPlan P G call ops rest (aput o.dst v env) σ1 = some fin)
    (hpu : ∀ (j : Nat) (o' : Oper), ops[j]? = some o' → kd o'.op = .u → j ∈ D → ¬ Li listed j → UPend P G ops (aput o.dst v env) σ1 o') :
    Inv P G call ops φ0 σ0 w0 fin ds (listed.setIfInBounds i true) (a.put o.dst v') w1 (i :: D) rest (aput o.dst v env) σ1 φ1 pb := by
  obtain ⟨h1, h2, h3, h4⟩ := plan_head I.plan
  have hlt2 : i < listed.size := by rw [I.size]; exact h1
  have hne : ∀ j, j ≠ i → (j ∈ i :: D ↔ j ∈ D) := fun j hj => by simp [hj]
  have sep : ∀ {j : Nat} {o' : Oper}, ops[j]? = some o' → kd o'.op ≠ .n → j ≠ i := fun hj hk' e => by
    subst e; rw [hi] at hj; injection hj with hj; subst hj; exact hk' hk
  refine ⟨by simp [I.size], closed_set I.size I.closedL h1 hd, h4, closedD_cons I.closedD h1 h3, I.frm.trans hf, hr1, hrun, ?_, ?_, ?_, ?_, ?_, ?_, ?_, ?_, by rw [put_defers]; exact I.dfr⟩
  · intro j o' hj hk'
    rw [li_set hlt2]
    by_cases e : j = i
    · subst e; simp
    · rw [hne j e, ← I.nL j o' hj hk']
      exact ⟨fun h => h.resolve_left e, .inr⟩
  · intro j o' hj hk' hl
    rw [li_set hlt2] at hl
    exact List.mem_cons_of_mem _ (I.uL j o' hj hk' (hl.resolve_left (sep hj (by rw [hk']; decide))))
  · intro j o' hj hk' hjD
    rw [li_set hlt2]
    rw [hne j (sep hj (by rw [hk']; decide))] at hjD
    exact .inr (I.aL j o' hj hk' hjD)
  · rw [len_put, size_put]; exact I.len
  · intro t ht
    by_cases he : o.dst = some t
    · rw [he]
      by_cases hlt3 : t < env.length
      · rw [getD_aput_eq hlt3, getD_put_eq (by rw [← I.len]; exact hlt3)]
        exact hv
      · rw [getD_put_out (by rw [← I.len]; exact hlt3), getD_aput_out hlt3]
        exact .undef_
    · rw [getD_put_ne he, getD_aput_ne he]
      refine (I.tm t fun j o' hj hd' => ?_).frm hf
      have e : j ≠ i := fun e => by subst e; rw [hi] at hj; injection hj with hj; subst hj; exact he hd'
      have := ht j o' hj hd'
      rw [li_set hlt2, hne j e] at this
      exact ⟨fun h => this.1 (.inr h), fun h => (this.2 h).resolve_left e⟩
  · intro j o' hj hk' hjD hjL
    rw [li_set hlt2] at hjL
    rw [hne j (sep hj (by rw [hk']; decide))] at hjD
    exact hpu j o' hj hk' hjD fun h => hjL (.inr h)
  · intro j o' hj hk' hl hjD
    rw [li_set hlt2] at hl
    have e : j ≠ i := sep hj (by rw [hk']; decide)
    refine APend.frm (I.pa j o' hj hk' (hl.resolve_left e) fun h => hjD (List.mem_cons_of_mem _ h)) hf (size_put _ _ _) fun d hd' => ?_
    exact getD_put_ne fun h => hR.ne i j o o' d (fun h => e h.symm) hi hj h hd'
  · intro j k o1 o2 hj hk1 ha1 ha2 hl1 hd1 hl2 hd2
    rw [li_set hlt2] at hl1 hl2
    exact I.inj j k o1 o2 hj hk1 ha1 ha2 (hl1.resolve_left (sep hj (by rw [ha1]; decide))) (fun h => hd1 (List.mem_cons_of_mem _ h)) (hl2.resolve_left (sep hk1 (by rw [ha2]; decide))) fun h => hd2 (List.mem_cons_of_mem _ h)

/-- The plan goes on as far as it goes by itself. -/
theorem Inv.settle (hR : Reg P ops) : ∀ (rest : List (Nat × List Nat)) {D : List Nat} {env : List Value}, Inv P G call ops φ0 σ0 w0 fin ds listed a w D rest env σ φ pb →
    ∃ D1 rest1 env1, Inv P G call ops φ0 σ0 w0 fin ds listed a w D1 rest1 env1 σ φ pb ∧ ∀ i re r, rest1 = (i, re) :: r → kdAt ops i ≠ .u := by
  intro rest
  induction rest with
  | nil => intro D env I; exact ⟨D, [], env, I, fun i re r h => by cases h⟩
  | cons x rest ih =>
    obtain ⟨i, re⟩ := x
    intro D env I
    by_cases hk : kdAt ops i = .u
    · obtain ⟨env1, I1⟩ := I.advance hR hk
      exact ih I1
    · exact ⟨D, _, env, I, fun j re' r h => by cases h; exact hk⟩

theorem sat_of (I : Inv P G call ops φ0 σ0 w0 fin ds listed a w D rest env σ φ pb) (hs : ∀ i re r, rest = (i, re) :: r → kdAt ops i ≠ .u) {i : Nat} {o : Oper} (hi : ops[i]? = some o) (hk : kd o.op = .u) (hd : ∀ d ∈ deps ops i, d ∈ D) : i ∈ D := by
  have hlt : i < ops.size := (Array.getElem?_eq_some_iff.1 hi).1
  cases rest with
  | nil =>
    have := I.plan
    simp only [planOk, List.all_eq_true] at this
    simpa using this i (List.mem_range.2 hlt)
  | cons x rest =>
    obtain ⟨j, re⟩ := x
    have hsat : saturated ops D = true := by
      cases hkj : kdAt ops j with
      | u => exact absurd hkj (hs j re rest rfl)
      | a => exact (plan_a I.plan hkj).1
      | n => exact (plan_n I.plan hkj).1
    have := List.all_eq_true.1 hsat i (List.mem_range.2 hlt)
    simp only [kdAt_of hi, hk, Bool.or_eq_true, decide_eq_true_eq] at this
    rcases this with (h | h) | h
    · exact absurd rfl h
    · simpa using h
    · exfalso
      have h2 : ((deps ops i).all fun d => D.contains d) = true := by
        rw [List.all_eq_true]
        exact fun d hd' => by simpa using hd d hd'
      rw [h2] at h
      cases h

/-- All that comes ahead of a later entry in the plan. -/
theorem plan_later {ms : List Nat} : ∀ (rest : List (Nat × List Nat)) (D : List Nat), planOk ops ms D rest = true → ∀ i, kdAt ops i = .n → i ∉ D → i < ops.size → ∀ j ∈ D, kdAt ops j ≠ .u → ancB ms i j = true := by
  intro rest
  induction rest with
  | nil =>
    intro D h i hk hD hlt
    simp only [planOk, List.all_eq_true] at h
    exact absurd (by simpa using h i (List.mem_range.2 hlt)) hD
  | cons x rest ih =>
    obtain ⟨k, re⟩ := x
    intro D h i hk hD hlt j hj hu
    by_cases e : i = k
    · subst e
      exact (plan_n h hk).2.2 j hj hu
    · exact ih (k :: D) (plan_head h).2.2.2 i hk (by simp [e, hD]) hlt j (List.mem_cons_of_mem _ hj) hu
theorem plan_front {ms : List Nat} {k : Nat} {re : List Nat} {rest : List (Nat × List Nat)} (h : planOk ops ms D ((k, re) :: rest) = true) {i : Nat} (hk : kdAt ops i = .n) (hD : i ∉ D) (hlt : i < ops.size) (hne : i ≠ k) (hu : kdAt ops k ≠ .u) :
    ancB ms i k = true := plan_later rest (k :: D) (plan_head h).2.2.2 i hk (by simp [hne, hD]) hlt k (by simp) hu

/-- The plan comes up to the operation that the machine does next. -/
theorem Inv.reach (hR : Reg P ops) {i : Nat} {o : Oper} (hi : ops[i]? = some o) (hk : kd o.op = .n) (hiL : ¬ Li listed i) (hd : ∀ d ∈ deps ops i, Li listed d) : ∀ (rest : List (Nat × List Nat)) {D : List Nat} {env : List Value} {σ : St} {φ : PMap},
    Inv P G call ops φ0 σ0 w0 fin ds listed a w D rest env σ φ pb → ∃ D1 re rest1 env1 σ1 φ1, Inv P G call ops φ0 σ0 w0 fin ds listed a w D1 ((i, re) :: rest1) env1 σ1 φ1 pb := by
  intro rest
  have hlt : i < ops.size := (Array.getElem?_eq_some_iff.1 hi).1
  induction rest with
  | nil =>
    intro D env σ φ I
    have := I.plan
    simp only [planOk, List.all_eq_true] at this
    exact absurd ((I.nL i o hi hk).2 (by simpa using this i (List.mem_range.2 hlt))) hiL
  | cons x rest ih =>
    obtain ⟨j, re⟩ := x
    intro D env σ φ I
    by_cases e : i = j
    · subst e; exact ⟨D, re, rest, env, σ, φ, I⟩
    · have hiD : i ∉ D := fun h => hiL ((I.nL i o hi hk).2 h)
      cases hkj : kdAt ops j with
      | u =>
        obtain ⟨env1, I1⟩ := I.advance hR hkj
        exact ih I1
      | a =>
        have hjL := anc_L I.closedL (plan_front I.plan (by rw [kdAt_of hi]; exact hk) hiD hlt e (by rw [hkj]; decide)) hd
        obtain ⟨env1, σ1, φ1, I1⟩ := I.adopt hR hkj hjL
        exact ih I1
      | n =>
        have hjL := anc_L I.closedL (plan_front I.plan (by rw [kdAt_of hi]; exact hk) hiD hlt e (by rw [hkj]; decide)) hd
        obtain ⟨h1, h2, _, _⟩ := plan_head I.plan
        have hj : ops[j]? = some ops[j] := Array.getElem?_eq_getElem h1
        exact absurd ((I.nL j _ hj (by rw [← kdAt_of hj]; exact hkj)).1 hjL) h2

/-- When the machine has done all, so does the plan. -/
theorem Inv.finish (hR : Reg P ops) (hall : ∀ i, i < ops.size → Li listed i) : ∀ (rest : List (Nat × List Nat)) {D : List Nat} {env : List Value} {σ : St} {φ : PMap},
    Inv P G call ops φ0 σ0 w0 fin ds listed a w D rest env σ φ pb → ∃ env1 σ1 φ1, fin = (.normal, env1, σ1) ∧ Frm φ0 σ0 w0 φ1 σ1 w ∧ RH P φ1 σ1 w ∧ RVl φ1 σ1.n env1 a.tmps.toList := by
  intro rest
  induction rest with
  | nil =>
    intro D env σ φ I
    have hrun := I.run
    simp only [runPlan] at hrun
    injection hrun with hrun
    have hD : ∀ i, i < ops.size → i ∈ D := by
      have := I.plan
      simp only [planOk, List.all_eq_true] at this
      exact fun i hi => by simpa using this i (List.mem_range.2 hi)
    refine ⟨env, σ, φ, hrun.symm, I.frm, I.rh, RVl.of_get (by rw [I.len]; simp) fun t v hv => ?_⟩
    have hlt := (List.getElem?_eq_some_iff.1 hv).1
    have hlt2 : t < a.tmps.size := by rw [← I.len]; exact hlt
    have := I.tm t fun j o' hj _ => ⟨fun _ => hD j (Array.getElem?_eq_some_iff.1 hj).1, fun _ => hall j (Array.getElem?_eq_some_iff.1 hj).1⟩
    rw [List.getD_eq_getElem?_getD, hv] at this
    refine ⟨a.tmps.getD t undef, ?_, this⟩
    rw [Array.getElem?_toList]
    simp [hlt2]
  | cons x rest ih =>
    obtain ⟨j, re⟩ := x
    intro D env σ φ I
    obtain ⟨h1, h2, _, _⟩ := plan_head I.plan
    have hj : ops[j]? = some ops[j] := Array.getElem?_eq_getElem h1
    cases hkj : kdAt ops j with
    | u =>
      obtain ⟨env1, I1⟩ := I.advance hR hkj
      exact ih I1
    | a =>
      obtain ⟨env1, σ1, φ1, I1⟩ := I.adopt hR hkj (hall j h1)
      exact ih I1
    | n => exact absurd ((I.nL j _ hj (by rw [← kdAt_of hj]; exact hkj)).1 (hall j h1)) h2
end
end Go.AM
namespace Go.AM
open Go

section
variable {P : Program} {G : Cfg} {call : ACall} {ops : Array Oper} {φ0 : PMap} {σ0 : St} {w0 : World} {ds : List Deferred} {x : AExit} {env1 : List Value} {σ1 : St}

theorem count_set {listed : Array Bool} {i : Nat} {fuel : Nat} (hlt : i < listed.size) (hi : ¬ Li listed i) (hc : listed.toList.count false ≤ fuel + 1) : (listed.setIfInBounds i true).toList.count false ≤ fuel := by
  have h1 : listed.toList[i]'(by simpa using hlt) = false := by
    simp only [Li, Array.getD_eq_getD_getElem?, Array.getElem?_eq_getElem hlt, Option.getD_some] at hi
    simpa using hi
  have hmem : false ∈ listed.toList := h1 ▸ List.getElem_mem _
  have := List.count_pos_iff.2 hmem
  rw [Array.toList_setIfInBounds, List.count_set (by simpa using hlt), h1]
  show listed.toList.count false - (if (false == false) = true then 1 else 0) + (if (true == false) = true then 1 else 0) ≤ fuel
  have e1 : (if (false == false) = true then 1 else 0) = 1 := rfl
  have e2 : (if (true == false) = true then 1 else 0) = 0 := rfl
  rw [e1, e2]
  omega
theorem ready_all {listed : Array Bool} {fuel : Nat} (hsz : listed.size = ops.size) (hlt : ∀ i, ∀ d ∈ deps ops i, d < i) (h : Region.ready .any ops listed = []) : ∀ i, i < ops.size → Li listed i := by
  intro i
  induction i using Nat.strongRecOn with
  | _ i ih =>
    intro hi
    by_cases hL : Li listed i
    · exact hL
    · exfalso
      have : i ∈ Region.ready .any ops listed := by
        rw [mem_ready]
        refine ⟨?_, ops[i], Array.getElem?_eq_getElem hi, fun e he hb => ?_⟩
        · have hl : i < listed.size := by omega
          simp only [Li, Array.getD_eq_getD_getElem?, Array.getElem?_eq_getElem hl, Option.getD_some] at hL ⊢
          simpa using hL
        · have hd : e.on ∈ deps ops i := (deps_of (Array.getElem?_eq_getElem hi)).2 ⟨e, he, hb, rfl⟩
          exact ih e.on (hlt i _ hd) (by have := hlt i _ hd; omega)
      rw [h] at this
      cases this
theorem all_ready {listed : Array Bool} (hsz : listed.size = ops.size) (h : listed.toList.count false ≤ 0) : Region.ready .any ops listed = [] := by
  rw [List.eq_nil_iff_forall_not_mem]
  intro i hi
  obtain ⟨h1, o, ho, _⟩ := mem_ready.1 hi
  have hlt : i < listed.size := by rw [hsz]; exact (Array.getElem?_eq_some_iff.1 ho).1
  have h2 : listed.toList[i]'(by simpa using hlt) = false := by
    simp only [Array.getD_eq_getD_getElem?, Array.getElem?_eq_getElem hlt, Option.getD_some] at h1
    simpa using h1
  have hmem : false ∈ listed.toList := h2 ▸ List.getElem_mem _
  have := List.count_pos_iff.2 hmem
  omega

theorem getD_replicate_false' (m j : Nat) : (Array.replicate m false).getD j false = false := by
  rcases Nat.lt_or_ge j m with h | h
  · simp [h]
  · simp [h]

theorem draw_sim (hn : namesOk P) (hs : Sound P G call) (hR : Reg P ops) (hgd : ∀ o ∈ ops.toList, ∀ y ∈ o.op.operands, opndGood G y = true) (hg0 : GL G φ0 σ0) : ∀ (fuel : Nat) (listed : Array Bool) (a : Act) (w : World)
    (D : List Nat) (rest : List (Nat × List Nat)) (env : List Value) (σ : St) (φ : PMap) (pb : Nat → Nat), Inv P G call ops φ0 σ0 w0 (x, env1, σ1) ds listed a w D rest env σ φ pb → listed.toList.count false ≤ fuel →
    wpAny P .any ops (XRel P φ0 σ0 w0 ds x env1 σ1) fuel listed a w := by
  have fin : ∀ {listed : Array Bool} {a : Act} {w : World} {D rest env σ φ pb}, Inv P G call ops φ0 σ0 w0 (x, env1, σ1) ds listed a w D rest env σ φ pb → Region.ready .any ops listed = [] → XRel P φ0 σ0 w0 ds x env1 σ1 .normal a w := by
    intro listed a w D rest env σ φ pb I h
    obtain ⟨e1, s1, φ1, h1, h2, h3, h4⟩ := I.finish hR (ready_all (fuel := 0) I.size hR.lt h) rest
    injection h1 with h1 h5
    injection h5 with h5 h6
    subst h1 h5 h6
    exact ⟨I.dfr, φ1, h2, h3, h4⟩
  intro fuel
  induction fuel with
  | zero =>
    intro listed a w D rest env σ φ pb I hc
    have := all_ready I.size hc
    exact ⟨this, fin I this⟩
  | succ fuel ih =>
    intro listed a w D rest env σ φ pb I hc
    refine ⟨fin I, fun i hir => ?_⟩
    obtain ⟨hun, o, hi, haf⟩ := mem_ready.1 hir
    have hlt : i < ops.size := (Array.getElem?_eq_some_iff.1 hi).1
    have hlt2 : i < listed.size := by rw [I.size]; exact hlt
    have hiL : ¬ Li listed i := by
      intro h
      simp only [Li, Array.getD_eq_getD_getElem?, Array.getElem?_eq_getElem hlt2, Option.getD_some] at h hun
      rw [h] at hun
      cases hun
    have hd : ∀ d ∈ deps ops i, Li listed d := by
      intro d hd
      obtain ⟨e, he, hb, rfl⟩ := (deps_of hi).1 hd
      exact haf e he hb
    have hcnt := count_set hlt2 hiL hc
    have hgd' := hgd o (by simpa using Array.mem_of_getElem? hi)
    unfold wpOp
    simp only [hi]
    cases hk : kd o.op with
    | u =>
      obtain ⟨D1, rest1, e1, I1, hset⟩ := I.settle hR rest
      have hdD : ∀ d ∈ deps ops i, d ∈ D1 := by
        intro d hd'
        have hdL := hd d hd'
        obtain ⟨o', ho'⟩ := li_op I1.size hdL
        cases hkd : kd o'.op with
        | u => exact I1.uL d o' ho' hkd hdL
        | n => exact (I1.nL d o' ho' hkd).1 hdL
        | a =>
          obtain ⟨k, o2, hk2, hkn, ha1, ha2⟩ := hR.ud i d o o' hi ho' hk hkd hd'
          have hkL := anc_L I1.closedL ha1 hd
          have hkD := (I1.nL k o2 hk2 hkn).1 hkL
          exact anc_D I1.closedD ha2 (I1.closedD k hkD).2
      have hiD := sat_of I1 hset hi hk hdD
      have hlook : ∀ t ∈ o.looksAt ops, RV φ σ.n (e1.getD t undef) (a.tmps.getD t undef) := fun t ht => rel_look hR I1.nL hi hd hdD I1.tm ht
      obtain ⟨v, h1, h2⟩ := (I1.pu i o hi hk hiD hiL).at_
      rw [rel_wanted I1.len hlook] at h1
      split
      · rename_i hw
        rw [if_pos hw] at h1
        obtain ⟨hu, σ', hv⟩ := h1
        obtain ⟨v1, v', d, g1, g2, g3, g4⟩ := uop_sim hn I1.rh (rel_ev (hg0.frm I1.frm) hgd' hlook) hu hv
        injection g1 with g1
        subst g1
        left
        unfold Oper.wp
        rw [g3, Oper.upon_value]
        exact ih _ _ _ _ _ _ _ _ _ (I1.stepU hR hi hk hiD hiL hd g4 h2 d) hcnt
      · rename_i hw
        rw [if_neg hw] at h1
        subst h1
        exact ih _ _ _ _ _ _ _ _ _ (I1.stepU hR hi hk hiD hiL hd .undef_ h2 w.drawn) hcnt
    | a =>
      obtain ⟨t, ht⟩ := kd_a hk
      obtain ⟨hgu, z, hz, hcl, hone⟩ := hR.zero i o t hi ht
      have hw : Region.wanted o (yielded ops a.tmps) = true := by simp [Region.wanted, hgu]
      rw [if_pos hw]
      left
      have hex : (execOp a.eval o).run P w = .ok (.value (.pointer (some ⟨w.heap.size, 0, none⟩))) (w.alloc (.cells z.cells t)) := by
        unfold execOp
        rw [ht]
        simp only [Sem.run_bind]
        rw [alloc_real hz]
        rfl
      unfold Oper.wp
      rw [hex, Oper.upon_value]
      exact ih _ _ _ _ _ _ _ _ _ (I.stepA hR hi hk hiL hd ht hz) hcnt
    | n =>
      obtain ⟨D1, re, rest1, e1, s1, φ1, I1⟩ := I.reach hR hi hk hiL hd rest
      obtain ⟨_, h2, hdD, _⟩ := plan_head I1.plan
      have hpn := (plan_n I1.plan (by rw [kdAt_of hi]; exact hk)).2.1
      have hlook : ∀ t ∈ o.looksAt ops, RV φ1 s1.n (e1.getD t undef) (a.tmps.getD t undef) := fun t ht => rel_look hR I1.nL hi hd hdD I1.tm ht
      have hrun := I1.run
      simp only [runPlan, hi, hk] at hrun
      rw [rel_wanted I1.len hlook] at hrun
      have hrc : ∀ {v : Value} {s2 : St}, arecheck P G ops (aput o.dst v e1) s2 re = true → ∀ (j : Nat) (o' : Oper), ops[j]? = some o' → kd o'.op = .u → j ∈ D1 → ¬ Li listed j → UPend P G ops (aput o.dst v e1) s2 o' := by
        intro v s2 h j o' hj hkj hjD hjL
        rcases hpn j hjD (by rw [kdAt_of hj]; exact hkj) with h3 | h3
        · exact absurd (anc_L I1.closedL h3 hd) hjL
        · exact recheck_at h j o' h3 hj
      split
      · rename_i hw
        rw [if_pos hw] at hrun
        left
        have hρ := rel_ev (hg0.frm I1.frm) hgd' hlook
        unfold Oper.wp
        cases hop : aop P (ev G e1) o s1 with
        | none => rw [hop] at hrun; cases hrun
        | some r =>
          obtain ⟨r, s2⟩ := r
          rw [hop] at hrun
          have hsim := aop_sim hn I1.rh hρ hop
          cases r with
          | value v =>
            obtain ⟨φ2, w2, v', g1, hf, hr2, hv⟩ := hsim
            simp only at hrun
            split at hrun
            case isFalse => cases hrun
            rename_i hre
            rw [g1, Oper.upon_value]
            exact ih _ _ _ _ _ _ _ _ _ (I1.stepN hR hi hk hiL hd hf hr2 hv hrun (hrc hre)) hcnt
          | skip =>
            obtain ⟨φ2, w2, g1, hf, hr2⟩ := hsim
            simp only at hrun
            split at hrun
            case isFalse => cases hrun
            rename_i hre
            rw [g1, Oper.upon_skip]
            exact ih _ _ _ _ _ _ _ _ _ (I1.stepN hR hi hk hiL hd hf hr2 .undef_ hrun (hrc hre)) hcnt
          | enter f args =>
            obtain ⟨args', g1, g2, g3⟩ := hsim
            subst g2
            simp only at hrun
            rw [g1, Oper.upon_enter]
            cases hc : call f args.toList s2 with
            | none => rw [hc] at hrun; cases hrun
            | some r =>
              obtain ⟨e, s3⟩ := r
              rw [hc] at hrun
              refine Calls.mono (hs f args.toList s2 e s3 hc φ1 w args' I1.rh (hg0.frm I1.frm) g3) fun E w2 hE => ?_
              obtain ⟨φ2, hf, hr2, hv⟩ := hE
              cases e with
              | ret v =>
                simp only at hrun
                split at hrun
                case isFalse => cases hrun
                rename_i hre
                cases E with
                | returned v' => exact ih _ _ _ _ _ _ _ _ _ (I1.stepN hR hi hk hiL hd hf hr2 hv hrun (hrc hre)) hcnt
                | panicked c => exact hv.elim
                | outgrown => exact hv.elim
              | panic v =>
                injection hrun with hrun
                injection hrun with k1 k2
                injection k2 with k2 k3
                subst k1 k2 k3
                cases E with
                | returned v' => exact hv.elim
                | panicked c => exact ⟨I1.dfr, φ2, I1.frm.trans hf, hr2, hv⟩
                | outgrown => exact hv.elim
          | panic v =>
            obtain ⟨v', g1, g2, g3⟩ := hsim
            subst g2
            injection hrun with hrun
            injection hrun with k1 k2
            injection k2 with k2 k3
            subst k1 k2 k3
            rw [g1, Oper.upon_panic]
            exact ⟨I1.dfr, φ1, I1.frm, I1.rh, v', rfl, g3⟩
      · rename_i hw
        rw [if_neg hw] at hrun
        refine ih _ _ _ _ _ _ _ _ _ (I1.stepN hR hi hk hiL hd (.refl _ _ _) I1.rh .undef_ hrun fun j o' hj hkj hjD hjL => ?_) hcnt
        exact upend_put hR I1.closedD hi hj h2 hjD (fun _ h3 => hjL (anc_L I1.closedL h3 hd)) (I1.pu j o' hj hkj hjD hjL)

theorem adraw_sound (hn : namesOk P) (hm : P.follows .mixedOrders = true) {G' : Cfg} (hgl : G'.gl = G.gl) (hdr : G.draw = adraw G') : DrawSound P G := by
  intro call hs ops env σ x env1 σ1 hgd h φ w a id hr hg he
  have hs' : Sound P G' call := fun f args σ e σ1 hc φ w args' hr hg' ha => hs f args σ e σ1 hc φ w args' hr (by rw [GL, ← hgl]; exact hg') ha
  rw [hdr] at h
  unfold adraw planOf at h
  dsimp only at h
  split at h
  case h_2 => cases h
  rename_i pl hpl
  split at hpl
  case isFalse => cases hpl
  rename_i hok
  rw [Bool.and_eq_true] at hok
  injection hpl with hpl
  subst hpl
  have hgd' : ∀ o ∈ ops.toList, ∀ y ∈ o.op.operands, opndGood G' y = true := fun o ho y hy => by
    have := hgd o ho y hy
    unfold opndGood at this ⊢
    rw [hgl]
    exact this
  refine wp_region_any hm (draw_sim hn hs' (reg_of hok.1) hgd' (φ0 := φ) (σ0 := σ) (w0 := w) (ds := a.defers) (by rw [GL, hgl]; exact hg) ops.size (Array.replicate ops.size false) a _ [] (mkPlan ops (masks ops ops.size) ops.size []) env σ φ (fun _ => 0) ?_ (by simp))
  have hno : ∀ i, ¬ Li (Array.replicate ops.size false) i := fun i h => by
    have := getD_replicate_false' ops.size i
    rw [Li, this] at h
    cases h
  refine ⟨by simp, fun i h => absurd h (hno i), hok.2, fun i h => (by cases h), Frm.heap rfl rfl rfl rfl, hr.heap rfl, h, ?_, ?_, ?_, ?_, ?_, ?_, ?_, ?_, rfl⟩
  · exact fun i o _ _ => ⟨fun h => absurd h (hno i), fun h => (by cases h)⟩
  · exact fun i o _ _ h => absurd h (hno i)
  · exact fun i o _ _ h => (by cases h)
  · have := he.length
    simpa using this
  · exact fun t _ => rvl_getD he t
  · exact fun i o _ _ h => (by cases h)
  · exact fun i o _ _ h => absurd h (hno i)
  · exact fun i j o o' _ _ _ _ h => absurd h (hno i)
end
end Go.AM

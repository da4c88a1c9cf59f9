/- A part of the proof that FieldsSame, called with any two lists of tags (the laid tables as the text lays them), returns true and leaves its arguments as they were. Here: its operations. -/
import Derived.Test.YticpmageknpcmaaGreatDoorAmA
import Derived.Lib.UnsafeStr
import Derived.KernelRfl
import GoSem.Extern.BytealgIndexByte
import GoSem.Extern.BytealgCount
set_option linter.unusedVariables false
set_option linter.unusedSimpArgs false
namespace Go.AM
open Go

section
variable {P : Program} {φ : PMap} {σ : St} {w : World}

theorem sim_forL {α β : Type} {f : α → β → Sem (ForInStep β)} {g : α → β → Sem (ForInStep β)} :
    ∀ (l : List α) (b : β) (φ : PMap) (σ : St) (w : World), RH P φ σ w →
      (∀ x, x ∈ l → ∀ b φ1 σ1 w1, Frm φ σ w φ1 σ1 w1 → RH P φ1 σ1 w1 → Sim P φ1 σ1 w1 EqR (arun P (f x b) σ1) (g x b)) → Sim P φ σ w EqR (arun P (forIn l b f) σ) (forIn l b g) := by
  intro l
  induction l with
  | nil => intro b φ σ w hr h; simp only [List.forIn_nil]; exact sim_pure (A := EqR) hr rfl
  | cons x l ih =>
    intro b φ σ w hr h
    simp only [List.forIn_cons]
    refine sim_bind (h x (by simp) b φ σ w (Frm.refl _ _ _) hr) fun φ1 σ1 w1 s s' hf hr1 hs => ?_
    obtain rfl : s = s' := hs
    cases s with
    | done b' => exact sim_pure (A := EqR) hr1 rfl
    | yield b' => exact ih b' φ1 σ1 w1 hr1 fun y hy b2 φ2 σ2 w2 hf2 hr2 => h y (by simp [hy]) b2 φ2 σ2 w2 (hf.trans hf2) hr2
theorem sim_forV {β : Type} {f : Value → β → Sem (ForInStep β)} (hf : ∀ φ σ w, RH P φ σ w → ∀ v v' b, RV φ σ.n v v' → Sim P φ σ w EqR (arun P (f v b) σ) (f v' b)) :
    ∀ (l l' : List Value) (b : β) (φ : PMap) (σ : St) (w : World), RH P φ σ w → RVl φ σ.n l l' → Sim P φ σ w EqR (arun P (forIn l b f) σ) (forIn l' b f) := by
  intro l
  induction l with
  | nil => intro l' b φ σ w hr h; cases h; simp only [List.forIn_nil]; exact sim_pure (A := EqR) hr rfl
  | cons x l ih =>
    intro l' b φ σ w hr h
    cases h with
    | cons hx hl =>
      simp only [List.forIn_cons]
      refine sim_bind (hf φ σ w hr _ _ b hx) fun φ1 σ1 w1 s s' hf1 hr1 hs => ?_
      obtain rfl : s = s' := hs
      cases s with
      | done b' => exact sim_pure (A := EqR) hr1 rfl
      | yield b' => exact ih _ b' φ1 σ1 w1 hr1 (hl.frm hf1)

/-! ### conversions -/
def convOk (P : Program) (src dst : TypeId) (x : Value) : Bool :=
  match P.underlying src, P.underlying dst, x with
  | some _, some (.int _), .int _ _ => true
  | some _, some .string, .string _ => true
  | some (.slice e), some .string, .slice .. => match P.underlying e with
    | some (.int .u8) => true
    | _ => false
  | _, _, _ => false

theorem sim_bytes (hr : RH P φ σ w) {x x' : Value} (hx : RV φ σ.n x x') : Sim P φ σ w RVR (arun P (Conv.bytesToString x) σ) (Conv.bytesToString x') := by
  unfold Conv.bytesToString
  cases hx <;> first | exact sim_none | skip
  case nilSlice => exact sim_pure (A := RVR) hr (.string _)
  case slice h o o' l c c' g1 g2 g3 g4 g5 g6 =>
    dsimp only
    by_cases hl : l = 0
    · subst hl
      exact sim_pure (A := RVR) hr (.string _)
    · refine sim_bind (sim_loadCells hr (a := ⟨h, o, none⟩) (a' := ⟨(φ.at_ h).block, o', none⟩) ⟨h, o, g1, g2, rfl, by rw [g3 (by omega)]⟩ l) fun φ1 σ1 w1 a a' hf hr1 ha => ?_
      simp only [← Array.forIn_toList]
      refine sim_bind (sim_forV ?_ a.toList a'.toList _ φ1 σ1 w1 hr1 ha) fun φ2 σ2 w2 s s' hf2 hr2 hs => ?_
      · intro φ3 σ3 w3 hr3 v v' b hv
        cases hv <;> first | exact sim_none | skip
        case int k i =>
          cases k <;> first | exact sim_none | exact sim_pure (A := EqR) hr3 rfl
      · obtain rfl : s = s' := hs
        exact sim_pure (A := RVR) hr2 (.string _)

theorem sim_convert (hr : RH P φ σ w) (src dst : TypeId) {x x' : Value} (hx : RV φ σ.n x x') (hok : convOk P src dst x = true) : Sim P φ σ w RVR (arun P (convert src dst x) σ) (convert src dst x') := by
  unfold convert
  refine und_step fun d1 hd1 => und_step fun d2 hd2 => ?_
  simp only [convOk, hd1, hd2] at hok
  cases hx <;> first | (exfalso; revert hok; cases d1 <;> cases d2 <;> simp; done) | skip
  case int k i =>
    cases d2 <;> first | (exfalso; revert hok; cases d1 <;> simp; done) | skip
    case int k2 => cases d1 <;> exact sim_pure (A := RVR) hr (.int _ _)
  case string s =>
    cases d2 <;> first | (exfalso; revert hok; cases d1 <;> simp; done) | skip
    case string => cases d1 <;> exact sim_pure (A := RVR) hr (.string _)
  case nilSlice =>
    cases d2 <;> first | (exfalso; revert hok; cases d1 <;> simp; done) | skip
    case string =>
      cases d1 <;> first | (exfalso; revert hok; simp; done) | skip
      case slice e =>
        dsimp only
        refine und_step fun d3 hd3 => ?_
        simp only [hd3] at hok
        cases d3 <;> first | (exfalso; revert hok; simp; done) | skip
        case int k =>
          cases k <;> first | (exfalso; revert hok; simp; done) | skip
          exact sim_bytes hr .nilSlice
  case slice h o o' l c c' g1 g2 g3 g4 g5 g6 =>
    cases d2 <;> first | (exfalso; revert hok; cases d1 <;> simp; done) | skip
    case string =>
      cases d1 <;> first | (exfalso; revert hok; simp; done) | skip
      case slice e =>
        dsimp only
        refine und_step fun d3 hd3 => ?_
        simp only [hd3] at hok
        cases d3 <;> first | (exfalso; revert hok; simp; done) | skip
        case int k =>
          cases k <;> first | (exfalso; revert hok; simp; done) | skip
          exact sim_bytes hr (.slice h o o' l c c' g1 g2 g3 g4 g5 g6)

/-! ### arithmetic -/
theorem quiet_panicErr {α : Type} (m : String) : Quiet (runtimePanic (.error m) : Sem α) := fun _ => trivial
theorem quiet_bin_int (op : BinOp) (t : TypeId) (k k' : IntKind) (a b : Int) : Quiet (binOp op t (.int k a) (.int k' b)) := by
  cases op <;> simp only [binOp, Op.shift, Op.intArith, Op.intDiv, Op.intBits, Op.intCmp] <;> (repeat' split) <;> first | trivial | exact quiet_panicErr _ | exact fun _ => trivial
theorem quiet_bin_str (op : BinOp) (t : TypeId) (a b : ByteArray) : Quiet (binOp op t (.string a) (.string b)) := by
  cases op <;> simp only [binOp, Op.stringOp] <;> (repeat' split) <;> trivial
theorem quiet_unary (op : UnOp) {x : Value} (hx : ∃ k i, x = .int k i ∨ ∃ b, x = .bool b) : Quiet (Op.unary op x) := by
  obtain ⟨k, i, rfl | ⟨b, rfl⟩⟩ := hx
  · cases op <;> simp only [Op.unary, Op.intArith, Op.intBits] <;> trivial
  · cases op <;> simp only [Op.unary] <;> trivial
def unOk : Value → Bool
  | .int .. | .bool _ => true
  | _ => false
theorem sim_quietV (hr : RH P φ σ w) {s : Sem Value} (h : Quiet s) (hv : ∀ v σ1, arun P s σ = some (v, σ1) → cleanV v = true) : Sim P φ σ w RVR (arun P s σ) s := by
  intro v σ1 h1
  obtain ⟨φ1, w1, b, h2, h3, h4, h5⟩ := quiet_sim h hr v σ1 h1
  obtain rfl : v = b := h5
  exact ⟨φ1, w1, v, h2, h3, h4, rv_clean (hv v σ1 h1) _ _⟩
end
end Go.AM
namespace Go.AM
open Go

section
variable {P : Program} {φ : PMap} {σ : St} {w : World}

theorem clean_bin_int (op : BinOp) (t : TypeId) (k k' : IntKind) (a b : Int) {v : Value} {σ1 : St} (h : arun P (binOp op t (.int k a) (.int k' b)) σ = some (v, σ1)) : cleanV v = true := by
  revert h
  cases op <;> simp only [binOp, Op.shift, Op.intArith, Op.intDiv, Op.intBits, Op.intCmp] <;> (repeat' split) <;> intro h <;> first | (cases h; rfl) | cases h
theorem clean_bin_str (op : BinOp) (t : TypeId) (a b : ByteArray) {v : Value} {σ1 : St} (h : arun P (binOp op t (.string a) (.string b)) σ = some (v, σ1)) : cleanV v = true := by
  revert h
  cases op <;> simp only [binOp, Op.stringOp] <;> (repeat' split) <;> intro h <;> first | (cases h; rfl) | cases h
theorem clean_unary (op : UnOp) {x : Value} (hx : unOk x = true) {v : Value} {σ1 : St} (h : arun P (Op.unary op x) σ = some (v, σ1)) : cleanV v = true := by
  revert h
  cases x <;> simp only [unOk, Bool.false_eq_true] at hx <;> cases op <;> simp only [Op.unary, Op.intArith, Op.intBits] <;> intro h <;> first | (cases h; rfl) | cases h
theorem sim_unary (hr : RH P φ σ w) (op : UnOp) {x x' : Value} (hx : RV φ σ.n x x') (hok : unOk x = true) : Sim P φ σ w RVR (arun P (Op.unary op x) σ) (Op.unary op x') := by
  cases hx <;> simp only [unOk, Bool.false_eq_true] at hok
  case int k i => exact sim_quietV hr (quiet_unary op ⟨k, i, .inl rfl⟩) fun v σ1 h => clean_unary op rfl h
  case bool b => exact sim_quietV hr (quiet_unary op ⟨.i8, 0, .inr ⟨b, rfl⟩⟩) fun v σ1 h => clean_unary op rfl h

/-! ### equality -/
theorem sameAddr_sim (hr : RH P φ σ w) {a a' b b' : Addr} (ha : RA φ σ.n a a') (hb : RA φ σ.n b b') : Sim P φ σ w EqR (arun P (sameAddr a b) σ) (sameAddr a' b') := by
  obtain ⟨h, o, h1, h2, rfl, rfl⟩ := ha
  obtain ⟨k, q, k1, k2, rfl, rfl⟩ := hb
  unfold sameAddr
  by_cases e : h = k
  · subst e
    simp only [beq_self_eq_true, if_true]
    refine sim_pure (A := EqR) hr ?_
    show decide _ = decide _
    simp
  · have e1 : ((⟨h, o, none⟩ : Addr).block == (⟨k, q, none⟩ : Addr).block) = false := by simpa using e
    intro r σ9 h9
    exfalso
    simp only [e1, Bool.false_eq_true, if_false] at h9
    cases h9

theorem prog_step {α β : Type} {B : PMap → Nat → α → β → Prop} {f : Program → Sem α} {g : Program → Sem β} (h : Sim P φ σ w B (arun P (f P) σ) (g P)) :
    Sim P φ σ w B (arun P (program >>= f) σ) (program >>= g) := h

theorem arun_none_bind {α β : Type} {s : Sem α} {f : α → Sem β} (h : arun P s σ = none) : arun P (s >>= f) σ = none := by rw [arun_bind, h]; rfl
theorem arun_panicErr {α : Type} (m : String) : arun P (runtimePanic (.error m) : Sem α) σ = none := rfl

theorem sim_equalIn : ∀ (d : Nat) (t : TypeId) (x x' y y' : Value) (φ : PMap) (σ : St) (w : World), RH P φ σ w → RV φ σ.n x x' → RV φ σ.n y y' →
    Sim P φ σ w EqR (arun P (Op.equalIn d t x y) σ) (Op.equalIn d t x' y') := by
  intro d
  induction d with
  | zero => intro t x x' y y' φ σ w hr hx hy; exact sim_none
  | succ d ih =>
    intro t x x' y y' φ σ w hr hx hy
    unfold Op.equalIn
    refine und_step fun u hu => ?_
    cases u
    case bool => cases hx <;> cases hy <;> first | exact sim_none | exact sim_pure (A := EqR) hr rfl
    case int k =>
      cases hx <;> cases hy <;> first | exact sim_none | skip
      case int.int k1 a k2 b =>
        dsimp only
        by_cases e : k1 = k2
        · simp only [if_pos e]; exact sim_pure (A := EqR) hr rfl
        · simp only [if_neg e]; exact sim_stuck _ _
      case int.ptr k1 a h o h1 h2 =>
        by_cases e : a = 0
        · subst e; exact sim_pure (A := EqR) hr rfl
        · intro r σ9 h9
          exfalso
          revert h9
          split <;> first | (intro h9; cases h9; done) | skip
          all_goals simp_all
      case ptr.int h o h1 h2 k1 a =>
        by_cases e : a = 0
        · subst e; exact sim_pure (A := EqR) hr rfl
        · intro r σ9 h9
          exfalso
          revert h9
          split <;> first | (intro h9; cases h9; done) | skip
          all_goals simp_all
    case float k =>
      cases hx <;> cases hy <;> first | exact sim_none | skip
      case float.float k1 a k2 b =>
        dsimp only
        by_cases e : k1 = k2
        · simp only [if_pos e]; exact sim_pure (A := EqR) hr rfl
        · simp only [if_neg e]; exact sim_stuck _ _
    case complex k =>
      cases hx <;> cases hy <;> first | exact sim_none | skip
      case complex.complex k1 a a2 k2 b b2 =>
        dsimp only
        by_cases e : k1 = k2
        · simp only [if_pos e]; exact sim_pure (A := EqR) hr rfl
        · simp only [if_neg e]; exact sim_stuck _ _
    case string => cases hx <;> cases hy <;> first | exact sim_none | exact sim_pure (A := EqR) hr rfl
    case pointer elem =>
      cases hx <;> cases hy <;> first | exact sim_none | exact sim_pure (A := EqR) hr rfl | skip
      case ptr.ptr h o h1 h2 k q k1 k2 =>
        dsimp only
        refine size_step fun s hs => ?_
        by_cases e : s = 0
        · intro r σ9 h9
          by_cases e2 : ((⟨h, o, none⟩ : Addr) == ⟨k, q, none⟩) = true
          · simp only [e, ne_eq, not_true_eq_false, if_false, e2, if_true] at h9
            have e3 : h = k ∧ o = q := by simpa using e2
            obtain ⟨rfl, rfl⟩ := e3
            simp only [e, ne_eq, not_true_eq_false, if_false, beq_self_eq_true, if_true]
            exact sim_pure (A := EqR) hr rfl r σ9 h9
          · exfalso
            simp only [e, ne_eq, not_true_eq_false, if_false, e2, if_false] at h9
            cases h9
        · simp only [ne_eq, e, not_false_eq_true, if_true]
          exact sameAddr_sim hr ⟨h, o, h1, h2, rfl, rfl⟩ ⟨k, q, k1, k2, rfl, rfl⟩
    case unsafePointer =>
      cases hx <;> cases hy <;> first | exact sim_none | exact sim_pure (A := EqR) hr rfl | skip
      case ptr.ptr h o h1 h2 k q k1 k2 => exact sameAddr_sim hr ⟨h, o, h1, h2, rfl, rfl⟩ ⟨k, q, k1, k2, rfl, rfl⟩
    case chan dir e => cases hx <;> cases hy <;> first | exact sim_none | exact sim_pure (A := EqR) hr rfl
    case slice e => cases hx <;> cases hy <;> first | exact sim_none | exact sim_pure (A := EqR) hr rfl
    case map e1 e2 => cases hx <;> cases hy <;> first | exact sim_none | exact sim_pure (A := EqR) hr rfl
    case func ps rs v => cases hx <;> cases hy <;> first | exact sim_none | exact sim_pure (A := EqR) hr rfl
    case named n u => cases hx <;> cases hy <;> exact sim_none
    case tuple es => cases hx <;> cases hy <;> exact sim_none
    case invalid => cases hx <;> cases hy <;> exact sim_none
    case interface ms =>
      cases hx <;> cases hy <;> first | exact sim_none | exact sim_pure (A := EqR) hr rfl | skip
      case iface.iface t1 v v' hv t2 u u' hu2 =>
        dsimp only
        by_cases e : t1 = t2
        · subst e
          simp only [ne_eq, not_true_eq_false, if_false]
          refine info_step fun i hi => ?_
          by_cases hc : i.comparable = true
          · simp only [hc, Bool.not_true, Bool.false_eq_true, if_false]
            exact ih t1 v v' u u' φ σ w hr hv hu2
          · intro r σ9 h9
            exfalso
            simp only [Bool.not_eq_true] at hc
            simp only [hc, Bool.not_false, if_true] at h9
            simp only [program, arun_bind, arun, Option.bind_some] at h9
            split at h9
            · cases h9
            · rw [arun_bind, Option.bind_eq_some_iff] at h9
              obtain ⟨_, _, h9⟩ := h9
              cases h9
        · simp only [ne_eq, e, not_false_eq_true, if_true]
          exact sim_pure (A := EqR) hr rfl
    case struct fields =>
      cases hx <;> cases hy <;> first | exact sim_none | skip
      case agg.agg a a' ha b b' hb =>
        dsimp only
        refine prog_step ?_
        by_cases hs : P.stoodInHeld t = true
        · simp only [hs, if_true]
          exact sim_none
        · simp only [hs]
          simp only [← Array.forIn_toList]
          refine sim_bind (sim_forL fields.toList _ φ σ w hr ?_) fun φ1 σ1 w1 s s' hf hr1 hss => ?_
          · intro f _ b0 φ1 σ1 w1 hf hr1
            by_cases hn : f.name = "_"
            · simp only [hn, ne_eq, not_true_eq_false, if_false]
              exact sim_pure (A := EqR) hr1 rfl
            · simp only [ne_eq, hn, not_false_eq_true, if_true]
              refine sim_bind (sim_part hr1 f.type (ha.frm hf) f.offset) fun φ2 σ2 w2 p p' hf2 hr2 hp => ?_
              refine sim_bind (sim_part hr2 f.type ((hb.frm hf).frm hf2) f.offset) fun φ3 σ3 w3 q q' hf3 hr3 hq => ?_
              refine sim_bind (ih f.type p p' q q' φ3 σ3 w3 hr3 (hp.frm hf3) hq) fun φ4 σ4 w4 e e' hf4 hr4 he => ?_
              obtain rfl : e = e' := he
              cases e <;> exact sim_pure (A := EqR) hr4 rfl
          · obtain rfl : s = s' := hss
            obtain ⟨s1, s2⟩ := s
            cases s1 <;> exact sim_pure (A := EqR) hr1 rfl
    case array len elem =>
      cases hx <;> cases hy <;> first | exact sim_none | skip
      case agg.agg a a' ha b b' hb =>
        dsimp only
        refine size_step fun n hn => ?_
        simp only [Std.Legacy.Range.forIn_eq_forIn_range']
        refine sim_bind (sim_forL _ _ φ σ w hr ?_) fun φ1 σ1 w1 s s' hf hr1 hss => ?_
        · intro i _ b0 φ1 σ1 w1 hf hr1
          refine sim_bind (sim_part hr1 elem (ha.frm hf) _) fun φ2 σ2 w2 p p' hf2 hr2 hp => ?_
          refine sim_bind (sim_part hr2 elem ((hb.frm hf).frm hf2) _) fun φ3 σ3 w3 q q' hf3 hr3 hq => ?_
          refine sim_bind (ih elem p p' q q' φ3 σ3 w3 hr3 (hp.frm hf3) hq) fun φ4 σ4 w4 e e' hf4 hr4 he => ?_
          obtain rfl : e = e' := he
          cases e <;> exact sim_pure (A := EqR) hr4 rfl
        · obtain rfl : s = s' := hss
          obtain ⟨s1, s2⟩ := s
          cases s1 <;> exact sim_pure (A := EqR) hr1 rfl

theorem sim_equal (hr : RH P φ σ w) (t : TypeId) {x x' y y' : Value} (hx : RV φ σ.n x x') (hy : RV φ σ.n y y') : Sim P φ σ w EqR (arun P (Op.equal t x y) σ) (Op.equal t x' y') := sim_equalIn _ t x x' y y' φ σ w hr hx hy

end
end Go.AM
namespace Go.AM
open Go

section
variable {P : Program} {φ : PMap} {σ : St} {w : World}

def eqOp : BinOp → Bool
  | .eql | .neq => true
  | _ => false
/-- Operands of an operation that need no guard. -/
def binOk (op : BinOp) : Value → Value → Bool
  | .int .., .int .. => true
  | .string _, .string _ => true
  | .bool _, .bool _ => eqOp op
  | .pointer _, .pointer _ => eqOp op
  | .slice .., .slice .. => eqOp op
  | .map _, .map _ => eqOp op
  | .iface .., .iface .. => eqOp op
  | .iface .., .nilIface => eqOp op
  | .nilIface, .iface .. => eqOp op
  | .func .., .nilFunc => eqOp op
  | .nilFunc, .nilFunc => eqOp op
  | .agg _, .agg _ => eqOp op
  | _, _ => false
/-- A struct or an array is compared: no part is an interface type with methods. -/
def guardOk (P : Program) (t : TypeId) : Value → Value → Bool
  | .agg _, .agg _ => !P.eqGuardType P.depth t
  | _, _ => true

theorem guard_quiet {x y : Value} (op : BinOp) (t : TypeId) (xo yo : Operand) (hb : binOk op x y = true) (hg : guardOk P t x y = true) {α : Type} (f : Unit → Sem α) :
    (∀ σ, arun P (eqGuard op t xo yo x y >>= f) σ = arun P (f ()) σ) ∧ ∀ w, (eqGuard op t xo yo x y >>= f).run P w = (f ()).run P w := by
  unfold eqGuard
  by_cases ho : eqOp op = true
  case neg => cases op <;> simp [eqOp] at ho <;> exact ⟨fun _ => rfl, fun _ => rfl⟩
  cases x <;> cases y <;> simp only [binOk, Bool.false_eq_true] at hb <;> cases op <;> simp only [eqOp, Bool.false_eq_true] at ho <;> first | exact ⟨fun _ => rfl, fun _ => rfl⟩ | skip
  all_goals
    simp only [guardOk] at hg
    constructor
    · intro σ
      simp only [arun_bind, program, arun, Option.bind_some, Bool.not_true, Bool.false_eq_true, if_false, hg, if_true, arun_pure]
    · intro w
      have hg2 : P.eqGuardType P.depth t = false := by simpa using hg
      simp [program, Sem.run, hg2]

theorem sim_binOp (hr : RH P φ σ w) (op : BinOp) (t : TypeId) (xo yo : Operand) {x x' y y' : Value} (hx : RV φ σ.n x x') (hy : RV φ σ.n y y') (hb : binOk op x y = true) (hg : guardOk P t x y = true) :
    Sim P φ σ w RVR (arun P (do eqGuard op t xo yo x y; binOp op t x y) σ) (do eqGuard op t xo yo x' y'; binOp op t x' y') := by
  have hb' : binOk op x' y' = true := by cases hx <;> cases hy <;> exact hb
  have hg' : guardOk P t x' y' = true := by cases hx <;> cases hy <;> exact hg
  intro r σ9 h9
  rw [(guard_quiet op t xo yo hb hg _).1] at h9
  have hrun := (guard_quiet (P := P) op t xo yo hb' hg' (fun _ => binOp op t x' y')).2 w
  have main : Sim P φ σ w RVR (arun P (binOp op t x y) σ) (binOp op t x' y') := by
    have heq : eqOp op = true → (∀ k i, x ≠ .int k i) → (∀ s, x ≠ .string s) → (∀ k b, x ≠ .float k b) → (∀ k b c, x ≠ .complex k b c) → Sim P φ σ w RVR (arun P (binOp op t x y) σ) (binOp op t x' y') := by
      intro ho n1 n2 n3 n4
      cases op <;> simp only [eqOp, Bool.false_eq_true] at ho
      case eql =>
        have e1 : binOp .eql t x y = (do pure (.bool (← Op.equal t x y))) := by
          cases x <;> first | rfl | (exfalso; first | exact n1 _ _ rfl | exact n2 _ rfl | exact n3 _ _ rfl | exact n4 _ _ _ rfl)
        have e2 : binOp .eql t x' y' = (do pure (.bool (← Op.equal t x' y'))) := by
          cases hx <;> first | rfl | (exfalso; first | exact n1 _ _ rfl | exact n2 _ rfl | exact n3 _ _ rfl | exact n4 _ _ _ rfl)
        rw [e1, e2]
        refine sim_bind (sim_equal hr t hx hy) fun φ1 σ1 w1 b b' hf hr1 hbb => ?_
        obtain rfl : b = b' := hbb
        exact sim_pure (A := RVR) hr1 (.bool _)
      case neq =>
        have e1 : binOp .neq t x y = (do pure (.bool (!(← Op.equal t x y)))) := by
          cases x <;> first | rfl | (exfalso; first | exact n1 _ _ rfl | exact n2 _ rfl | exact n3 _ _ rfl | exact n4 _ _ _ rfl)
        have e2 : binOp .neq t x' y' = (do pure (.bool (!(← Op.equal t x' y')))) := by
          cases hx <;> first | rfl | (exfalso; first | exact n1 _ _ rfl | exact n2 _ rfl | exact n3 _ _ rfl | exact n4 _ _ _ rfl)
        rw [e1, e2]
        refine sim_bind (sim_equal hr t hx hy) fun φ1 σ1 w1 b b' hf hr1 hbb => ?_
        obtain rfl : b = b' := hbb
        exact sim_pure (A := RVR) hr1 (.bool _)
    cases x
    case int k a =>
      cases hx
      cases y <;> simp only [binOk, Bool.false_eq_true] at hb
      cases hy
      exact sim_quietV hr (quiet_bin_int op t k _ a _) fun v σ1 h => clean_bin_int op t k _ a _ h
    case string s =>
      cases hx
      cases y <;> simp only [binOk, Bool.false_eq_true] at hb
      cases hy
      exact sim_quietV hr (quiet_bin_str op t s _) fun v σ1 h => clean_bin_str op t s _ h
    all_goals
      refine heq ?_ (fun _ _ h => by cases h) (fun _ h => by cases h) (fun _ _ h => ?_) (fun _ _ _ h => ?_) <;> first | (cases h; done) | (cases h; cases y <;> simp [binOk] at hb; done) | (cases y <;> simp only [binOk, Bool.false_eq_true] at hb <;> exact hb)
  obtain ⟨φ1, w1, b, h1, h2⟩ := main r σ9 h9
  exact ⟨φ1, w1, b, hrun.trans h1, h2⟩
end
end Go.AM
namespace Go.AM
open Go

/-! Maps whose keys are numbers, strings or bools. -/
def REt (φ : PMap) (n : Nat) (e e' : MapEntry) : Prop := e'.born = e.born ∧ RV φ n e.key e'.key ∧ RV φ n e.val e'.val
inductive REl (φ : PMap) (n : Nat) : List MapEntry → List MapEntry → Prop
  | nil : REl φ n [] []
  | cons {e e' : MapEntry} {l l' : List MapEntry} : REt φ n e e' → REl φ n l l' → REl φ n (e :: l) (e' :: l')
theorem REl.length {φ : PMap} {n : Nat} {l l' : List MapEntry} (h : REl φ n l l') : l.length = l'.length := by
  induction h with
  | nil => rfl
  | cons _ _ ih => simp [ih]
theorem REl.get {φ : PMap} {n : Nat} {l l' : List MapEntry} (h : REl φ n l l') : ∀ (i : Nat) (e : MapEntry), l[i]? = some e → ∃ e' : MapEntry, l'[i]? = some e' ∧ REt φ n e e' := by
  induction h with
  | nil => intro i e he; simp at he
  | cons h1 _ ih =>
    intro i e he
    cases i with
    | zero => simp at he; subst he; exact ⟨_, rfl, h1⟩
    | succ i => simp at he; simpa using ih i e he
theorem REl.of {φ : PMap} {n : Nat} : ∀ {l l' : List MapEntry}, l.length = l'.length → (∀ (i : Nat) (e : MapEntry), l[i]? = some e → ∃ e' : MapEntry, l'[i]? = some e' ∧ REt φ n e e') → REl φ n l l' := by
  intro l
  induction l with
  | nil => intro l' hl _; cases l' with
    | nil => exact .nil
    | cons => simp at hl
  | cons x l ih =>
    intro l' hl h
    cases l' with
    | nil => simp at hl
    | cons x' l' =>
      obtain ⟨y, hy, hr⟩ := h 0 x rfl
      simp at hy
      subst hy
      exact .cons hr (ih (by simpa using hl) fun i e he => by simpa using h (i + 1) e (by simpa using he))
theorem rel_of {φ : PMap} {n : Nat} {es es' : Array MapEntry} (h : REs φ n es es') : REl φ n es.toList es'.toList :=
  REl.of (by simpa using h.1) fun i e he => by
    obtain ⟨e', h1, h2⟩ := h.2 i e (by simpa using he)
    exact ⟨e', by simpa using h1, h2⟩
theorem rel_to {φ : PMap} {n : Nat} {es es' : Array MapEntry} (h : REl φ n es.toList es'.toList) : REs φ n es es' :=
  ⟨by simpa using h.length, fun i e he => by
    obtain ⟨e', h1, h2⟩ := h.get i e (by simpa using he)
    exact ⟨e', by simpa using h1, h2⟩⟩
theorem REl.append {φ : PMap} {n : Nat} {l l' m m' : List MapEntry} (h : REl φ n l l') (h' : REl φ n m m') : REl φ n (l ++ m) (l' ++ m') := by
  induction h with
  | nil => exact h'
  | cons h1 _ ih => exact .cons h1 ih
theorem REl.modify {φ : PMap} {n : Nat} {l l' : List MapEntry} (h : REl φ n l l') (i : Nat) {f g : MapEntry → MapEntry} (hf : ∀ e e', REt φ n e e' → REt φ n (f e) (g e')) : REl φ n (l.modify i f) (l'.modify i g) := by
  induction h generalizing i with
  | nil => simp; exact .nil
  | cons h1 h2 ih =>
    cases i with
    | zero => simp only [List.modify_zero_cons]; exact .cons (hf _ _ h1) h2
    | succ i => simp only [List.modify_succ_cons]; exact .cons h1 (ih i)

def keyOk : Value → Bool
  | .int .. | .string _ | .bool _ => true
  | _ => false

section
variable {P : Program} {φ : PMap} {σ : St} {w : World}
theorem rv_key {n : Nat} {k k' : Value} (h : RV φ n k k') (hk : keyOk k = true) : k' = k := by cases h <;> first | rfl | cases hk
theorem rv_key' {n : Nat} {k k' : Value} (h : RV φ n k k') (hk : keyOk k = false) : keyOk k' = false := by cases h <;> first | rfl | cases hk
theorem sameNow_rel {n : Nat} (d : TypeDesc) {k : Value} (hk : keyOk k = true) {v v' : Value} (hv : RV φ n v v') : Instr.sameNow d k v' = Instr.sameNow d k v := by
  by_cases h : keyOk v = true
  · rw [rv_key hv h]
  · have h0 : keyOk v = false := by simpa using h
    have h1 := rv_key' hv h0
    have e : ∀ u, keyOk u = false → Instr.sameNow d k u = none := by
      intro u hu
      cases u <;> first | (cases hu; done) | (cases d <;> cases k <;> rfl)
    rw [e _ h0, e _ h1]
def RFind (φ : PMap) (n : Nat) : Option (Nat × Value) → Option (Nat × Value) → Prop
  | none, none => True
  | some (i, v), some (i', v') => i' = i ∧ RV φ n v v'
  | _, _ => False
theorem findNow_rel {n : Nat} (d : TypeDesc) {k : Value} (hk : keyOk k = true) {l l' : List MapEntry} (h : REl φ n l l') : ∀ i, (Instr.findNow d k l i = none ∧ Instr.findNow d k l' i = none) ∨
    ∃ r r', Instr.findNow d k l i = some r ∧ Instr.findNow d k l' i = some r' ∧ RFind φ n r r' := by
  induction h with
  | nil => intro i; exact .inr ⟨none, none, rfl, rfl, trivial⟩
  | cons h1 h2 ih =>
    intro i
    simp only [Instr.findNow, sameNow_rel d hk h1.2.1]
    split
    · exact .inr ⟨_, _, rfl, rfl, rfl, h1.2.2⟩
    · exact ih (i + 1)
    · exact .inl ⟨rfl, rfl⟩
theorem findAsking_sim (t : TypeId) : ∀ (l l' : List MapEntry) (i : Nat) (k k' : Value) (φ : PMap) (σ : St) (w : World), RH P φ σ w → RV φ σ.n k k' → REl φ σ.n l l' →
    Sim P φ σ w RFind (arun P (Instr.findAsking t k l i) σ) (Instr.findAsking t k' l' i) := by
  intro l
  induction l with
  | nil => intro l' i k k' φ σ w hr hk h; cases h; exact sim_pure (A := RFind) hr trivial
  | cons e l ih =>
    intro l' i k k' φ σ w hr hk h
    cases h with
    | cons h1 h2 =>
      unfold Instr.findAsking
      refine sim_bind (sim_equal hr t hk h1.2.1) fun φ1 σ1 w1 b b' hf hr1 hb => ?_
      obtain rfl : b = b' := hb
      cases b with
      | true => exact sim_pure (A := RFind) hr1 ⟨rfl, h1.2.2.frm hf⟩
      | false =>
        refine ih _ (i + 1) k k' φ1 σ1 w1 hr1 (hk.frm hf) ?_
        exact rel_of (REs.mono (rel_to (es := ⟨l⟩) (es' := ⟨_⟩) h2) hf.ext hf.n_le)
theorem sim_findKey (hr : RH P φ σ w) (t : TypeId) {k : Value} (hk : keyOk k = true) (hkk : RV φ σ.n k k) {l l' : List MapEntry} (h : REl φ σ.n l l') :
    Sim P φ σ w RFind (arun P (Instr.findKey t k l) σ) (Instr.findKey t k l') := by
  unfold Instr.findKey
  refine und_step fun d hd => ?_
  rcases findNow_rel (φ := φ) (n := σ.n) d hk h 0 with ⟨h1, h2⟩ | ⟨r, r', h1, h2, h3⟩
  · simp only [h1, h2]
    exact findAsking_sim t l l' 0 k k φ σ w hr hkk h
  · simp only [h1, h2]
    exact sim_pure (A := RFind) hr h3
theorem check_quiet (b : Bool) (n : Nat) (t : TypeId) {k : Value} (hk : keyOk k = true) : Quiet (Instr.checkKey b n t k) := by
  cases n with
  | zero => trivial
  | succ n =>
  unfold Instr.checkKey
  refine quiet_bind (quiet_underlying t) fun d => ?_
  cases k <;> simp only [keyOk, Bool.false_eq_true] at hk <;> cases d <;> trivial
theorem rv_keySelf {n : Nat} {k : Value} (hk : keyOk k = true) : RV φ n k k := by cases k <;> simp only [keyOk, Bool.false_eq_true] at hk <;> constructor

theorem sim_getEs (hr : RH P φ σ w) {x x' : Value} (hx : RV φ σ.n x x') (s : String) {α α' : Type} {B : PMap → Nat → α → α' → Prop} {f : Array MapEntry → Sem α} {g : Array MapEntry → Sem α'}
    (h : ∀ es es', REs φ σ.n es es' → Sim P φ σ w B (arun P (f es) σ) (g es')) :
    Sim P φ σ w B (arun P (do
      let es ← match x with
        | .map none => pure #[]
        | .map (some r) => do
          let .map es _ ← getObj r | stuck s
          pure es
        | _ => stuck s
      f es) σ) (do
      let es ← match x' with
        | .map none => pure #[]
        | .map (some r) => do
          let .map es _ ← getObj r | stuck s
          pure es
        | _ => stuck s
      g es) := by
  cases hx <;> first | exact sim_none | skip
  case nilMap => simp only [pure_bind]; exact h _ _ REs.nil_
  case map hd r h1 h2 =>
    intro c σ9 h9
    cases hg : σ.get hd with
    | none => simp [getObj, arun_bind, arun, hg] at h9
    | some o =>
      have ho := hr.objs hd o hg
      cases o <;> simp [getObj, arun_bind, arun, hg, asObj?, stuck] at h9
      rename_i es cl
      obtain ⟨r', es', h3, h4, h5⟩ := ho
      rw [h2] at h3
      obtain rfl : r = r' := by injection h3
      obtain ⟨φ1, w1, b, h6, h7⟩ := h es es' h5 c σ9 h9
      refine ⟨φ1, w1, b, ?_, h7⟩
      have e : (getObj r).run P w = .ok (.map es' cl) w := by simp [getObj, Sem.run, h4]
      simp only [Sem.run_bind, e, Result.andThen_ok, Sem.run_pure]
      exact h6

theorem sim_lookup (hr : RH P φ σ w) (t : TypeId) (hz : ∀ k e, P.underlying t = some (.map k e) → zchk P e = true) (ok : Bool) {x x' k k' : Value} (hx : RV φ σ.n x x') (hk : RV φ σ.n k k') (hkey : keyOk k = true) :
    Sim P φ σ w RVR (arun P (Instr.lookup t x k ok) σ) (Instr.lookup t x' k' ok) := by
  obtain rfl := rv_key hk hkey
  unfold Instr.lookup
  refine und_step fun d hd => ?_
  cases d <;> first | exact sim_none | skip
  case map kt et =>
    have hze := hz kt et hd
    dsimp only
    refine sim_getEs hr hx "Lookup: map expected" fun es es' hes => ?_
    have hemp : es'.isEmpty = es.isEmpty := by simp only [Array.isEmpty, hes.1]
    rw [hemp]
    refine sim_bind (quiet_sim (check_quiet es.isEmpty 10000 kt hkey) hr) fun φ1 σ1 w1 _ _ hf1 hr1 _ => ?_
    refine sim_bind (sim_findKey hr1 kt hkey (rv_keySelf hkey) (rel_of (hes.mono hf1.ext hf1.n_le))) fun φ2 σ2 w2 r r' hf2 hr2 hrr => ?_
    cases r with
    | none =>
      cases r' with
      | some _ => exact hrr.elim
      | none =>
        simp only [pure_bind]
        refine sim_bind (sim_zero hr2 hze) fun φ3 σ3 w3 z z' hf3 hr3 ⟨e, hc⟩ => ?_
        subst e
        cases ok with
        | true => exact sim_pure (A := RVR) hr3 (.tuple (.cons (rv_clean hc _ _) (.cons (.bool _) .nil)))
        | false => exact sim_pure (A := RVR) hr3 (rv_clean hc _ _)
    | some iv =>
      cases r' with
      | none => exact hrr.elim
      | some iv' =>
        obtain ⟨i, v⟩ := iv
        obtain ⟨i', v'⟩ := iv'
        obtain ⟨_, hv⟩ := hrr
        simp only [pure_bind]
        cases ok with
        | true => exact sim_pure (A := RVR) hr2 (.tuple (.cons hv (.cons (.bool _) .nil)))
        | false => exact sim_pure (A := RVR) hr2 hv

theorem sim_keyStays (hr : RH P φ σ w) {o o' k : Value} (ho : RV φ σ.n o o') (hk : keyOk k = true) : Sim P φ σ w RVR (arun P (Instr.keyThatStays o k) σ) (Instr.keyThatStays o' k) := by
  unfold Instr.keyThatStays
  by_cases h : Instr.sameBits 10000 o k = true
  · have h' : Instr.sameBits 10000 o' k = true := by
      by_cases ho2 : keyOk o = true
      · rw [rv_key ho ho2]; exact h
      · exfalso
        cases o <;> cases k <;> simp_all [keyOk, Instr.sameBits]
    simp only [h, h', if_true]
    exact sim_pure (A := RVR) hr (rv_keySelf hk)
  · intro r σ9 h9
    exfalso
    simp only [h] at h9
    cases h9

/-- Through a map's object: what is there, and what is put there. -/
theorem sim_withMap (hr : RH P φ σ w) {h r : Nat} (hat : φ.at_ h = ⟨r, 0, none⟩) (s : String) {α α' : Type} {B : PMap → Nat → α → α' → Prop} {f : Array MapEntry → Nat → Sem α} {g : Array MapEntry → Nat → Sem α'}
    (hh : ∀ es es' cl, REs φ σ.n es es' → Sim P φ σ w B (arun P (f es cl) σ) (g es' cl)) :
    Sim P φ σ w B (arun P (do let .map es cl ← getObj h | stuck s
                              f es cl) σ) (do let .map es cl ← getObj r | stuck s
                                              g es cl) := by
  intro c σ9 h9
  cases hg : σ.get h with
  | none => simp [getObj, arun_bind, arun, hg] at h9
  | some o =>
    have ho := hr.objs h o hg
    cases o <;> simp [getObj, arun_bind, arun, hg, asObj?, stuck] at h9
    rename_i es cl
    obtain ⟨r', es', h3, h4, h5⟩ := ho
    rw [hat] at h3
    obtain rfl : r = r' := by injection h3
    obtain ⟨φ1, w1, b, h6, h7⟩ := hh es es' cl h5 c σ9 h9
    refine ⟨φ1, w1, b, ?_, h7⟩
    have e : (getObj r).run P w = .ok (.map es' cl) w := by simp [getObj, Sem.run, h4]
    simp only [Sem.run_bind, e, Result.andThen_ok]
    exact h6

theorem key_at {n : Nat} {es es' : Array MapEntry} (hes : REs φ n es es') (i : Nat) {k : Value} (hk : RV φ n k k) : RV φ n (((es[i]?).map (·.key)).getD k) (((es'[i]?).map (·.key)).getD k) := by
  cases h : es[i]? with
  | none =>
    have h2 : es'[i]? = none := by
      rw [Array.getElem?_eq_none_iff] at h ⊢
      rw [← hes.1]; exact h
    simp [h2, hk]
  | some e =>
    obtain ⟨e', h1, h2, h3, h4⟩ := hes.2 i e h
    simp [h1, h3]

theorem sim_mapUpdate (hr : RH P φ σ w) (t : TypeId) {x x' k k' v v' : Value} (hx : RV φ σ.n x x') (hk : RV φ σ.n k k') (hkey : keyOk k = true) (hv : RV φ σ.n v v') :
    Sim P φ σ w EqR (arun P (Instr.mapUpdate t x k v) σ) (Instr.mapUpdate t x' k' v') := by
  obtain rfl := rv_key hk hkey
  unfold Instr.mapUpdate
  refine und_step fun d hd => ?_
  cases d <;> first | exact sim_none | skip
  case map kt et =>
    cases hx <;> first | exact sim_none | skip
    case map h r h1 h2 =>
      dsimp only
      refine sim_withMap hr h2 _ fun es es' cl hes => ?_
      refine sim_bind (quiet_sim (check_quiet false 10000 kt hkey) hr) fun φ1 σ1 w1 _ _ hf1 hr1 _ => ?_
      have hes1 := hes.mono hf1.ext hf1.n_le
      refine sim_bind (sim_findKey hr1 kt hkey (rv_keySelf hkey) (rel_of hes1)) fun φ2 σ2 w2 q q' hf2 hr2 hq => ?_
      have hes2 := hes1.mono hf2.ext hf2.n_le
      have hat2 : φ2.at_ h = ⟨r, 0, none⟩ := by rw [(hf2.ext h (Nat.lt_of_lt_of_le h1 hf1.n_le)).1, (hf1.ext h h1).1]; exact h2
      have hv2 := (hv.frm hf1).frm hf2
      cases q with
      | none =>
        cases q' with
        | some _ => exact hq.elim
        | none =>
          refine sim_setObj hr2 hat2 ⟨rfl, rel_to ?_⟩
          rw [Array.toList_push, Array.toList_push]
          have hl : cl = cl := rfl
          exact (rel_of hes2).append (.cons ⟨rfl, rv_keySelf hkey, hv2⟩ .nil)
      | some iv =>
        cases q' with
        | none => exact hq.elim
        | some iv' =>
          obtain ⟨i, u⟩ := iv
          obtain ⟨i', u'⟩ := iv'
          obtain ⟨hi, hu⟩ := hq
          subst hi
          dsimp only
          refine sim_bind (sim_keyStays hr2 (key_at hes2 i' (rv_keySelf hkey)) hkey) fun φ3 σ3 w3 kk kk' hf3 hr3 hkk => ?_
          have hat3 : φ3.at_ h = ⟨r, 0, none⟩ := by rw [(hf3.ext h (Nat.lt_of_lt_of_le h1 (Nat.le_trans hf1.n_le hf2.n_le))).1]; exact hat2
          refine sim_setObj hr3 hat3 ⟨rfl, rel_to ?_⟩
          rw [Array.toList_modify, Array.toList_modify]
          refine (rel_of (hes2.mono hf3.ext hf3.n_le)).modify i' fun e e' he => ⟨he.1, hkk, hv2.frm hf3⟩

theorem sim_mapEntry (hr : RH P φ σ w) (t : TypeId) (hz : ∀ k e, P.underlying t = some (.map k e) → zchk P e = true) {x x' k k' : Value} (hx : RV φ σ.n x x') (hk : RV φ σ.n k k') (hkey : keyOk k = true) :
    Sim P φ σ w RVR (arun P (Instr.mapEntry t x k) σ) (Instr.mapEntry t x' k') := by
  obtain rfl := rv_key hk hkey
  unfold Instr.mapEntry
  refine und_step fun d hd => ?_
  cases d <;> first | exact sim_none | skip
  case map kt et =>
    have hze := hz kt et hd
    cases hx <;> first | exact sim_none | skip
    case map h r h1 h2 =>
      dsimp only
      refine sim_withMap hr h2 _ fun es es' cl hes => ?_
      refine sim_bind (quiet_sim (check_quiet false 10000 kt hkey) hr) fun φ1 σ1 w1 _ _ hf1 hr1 _ => ?_
      have hes1 := hes.mono hf1.ext hf1.n_le
      refine sim_bind (sim_findKey hr1 kt hkey (rv_keySelf hkey) (rel_of hes1)) fun φ2 σ2 w2 q q' hf2 hr2 hq => ?_
      have hes2 := hes1.mono hf2.ext hf2.n_le
      have h12 : h < σ2.n := Nat.lt_of_lt_of_le h1 (Nat.le_trans hf1.n_le hf2.n_le)
      have hat2 : φ2.at_ h = ⟨r, 0, none⟩ := by rw [(hf2.ext h (Nat.lt_of_lt_of_le h1 hf1.n_le)).1, (hf1.ext h h1).1]; exact h2
      cases q with
      | none =>
        cases q' with
        | some _ => exact hq.elim
        | none =>
          dsimp only
          refine sim_bind (sim_zero hr2 hze) fun φ3 σ3 w3 z z' hf3 hr3 ⟨e, hc⟩ => ?_
          subst e
          have hat3 : φ3.at_ h = ⟨r, 0, none⟩ := by rw [(hf3.ext h h12).1]; exact hat2
          refine sim_bind (sim_setObj hr3 hat3 (o := .map (es.push { key := k', val := z, born := cl }) (cl + 1)) (o' := .map (es'.push { key := k', val := z, born := cl }) (cl + 1)) ⟨rfl, rel_to ?_⟩) fun φ4 σ4 w4 _ _ hf4 hr4 _ => ?_
          · rw [Array.toList_push, Array.toList_push]
            exact (rel_of (hes2.mono hf3.ext hf3.n_le)).append (.cons ⟨rfl, rv_keySelf hkey, rv_clean hc _ _⟩ .nil)
          · exact sim_pure (A := RVR) hr4 (.tuple (.cons (rv_clean hc _ _) (.cons (.int _ _) .nil)))
      | some iv =>
        cases q' with
        | none => exact hq.elim
        | some iv' =>
          obtain ⟨i, u⟩ := iv
          obtain ⟨i', u'⟩ := iv'
          obtain ⟨hi, hu⟩ := hq
          subst hi
          dsimp only
          refine sim_bind (sim_keyStays hr2 (key_at hes2 i' (rv_keySelf hkey)) hkey) fun φ3 σ3 w3 kk kk' hf3 hr3 hkk => ?_
          have hat3 : φ3.at_ h = ⟨r, 0, none⟩ := by rw [(hf3.ext h h12).1]; exact hat2
          have hes3 := hes2.mono hf3.ext hf3.n_le
          refine sim_bind (sim_setObj hr3 hat3 (o := .map (es.modify i' fun e => { e with key := kk }) cl) (o' := .map (es'.modify i' fun e => { e with key := kk' }) cl) ⟨rfl, rel_to ?_⟩) fun φ4 σ4 w4 _ _ hf4 hr4 _ => ?_
          · rw [Array.toList_modify, Array.toList_modify]
            exact (rel_of hes3).modify i' fun e e' he => ⟨he.1, hkk, he.2.2⟩
          · have hb : ((es'[i']?).map (fun x => (x.born : Int))).getD 0 = ((es[i']?).map (fun x => (x.born : Int))).getD 0 := by
              cases h : es[i']? with
              | none =>
                have h2 : es'[i']? = none := by
                  rw [Array.getElem?_eq_none_iff] at h ⊢
                  rw [← hes.1]; exact h
                simp [h2]
              | some e =>
                obtain ⟨e', g1, g2, _⟩ := hes.2 i' e h
                simp [g1, g2]
            rw [hb]
            exact sim_pure (A := RVR) hr4 (.tuple (.cons ((hu.frm hf3).frm hf4) (.cons (.int _ _) .nil)))

theorem find_born {n : Nat} {l l' : List MapEntry} (h : REl φ n l l') (p : Nat → Bool) : l'.findIdx? (fun e => p e.born) = l.findIdx? (fun e => p e.born) := by
  induction h with
  | nil => rfl
  | cons h1 _ ih => simp only [List.findIdx?_cons, h1.1, ih]

theorem sim_entryStore (hr : RH P φ σ w) (t : TypeId) {x x' s s' v v' : Value} (hx : RV φ σ.n x x') (hs : RV φ σ.n s s') (hv : RV φ σ.n v v') :
    Sim P φ σ w EqR (arun P (Instr.entryStore t x s v) σ) (Instr.entryStore t x' s' v') := by
  unfold Instr.entryStore
  cases hx <;> first | exact sim_none | skip
  case map h r h1 h2 =>
    dsimp only
    refine sim_withMap hr h2 _ fun es es' cl hes => ?_
    refine sim_bind (sim_asInt hr hs) fun φ1 σ1 w1 b b' hf hr1 hb => ?_
    obtain rfl : b = b' := hb
    have hat1 : φ1.at_ h = ⟨r, 0, none⟩ := by rw [(hf.ext h h1).1]; exact h2
    have hes1 := hes.mono hf.ext hf.n_le
    have hfi : es'.findIdx? (fun e => (e.born : Int) == b) = es.findIdx? (fun e => (e.born : Int) == b) := by
      have e : ∀ a : Array MapEntry, a.findIdx? (fun e => (e.born : Int) == b) = a.toList.findIdx? (fun e => (e.born : Int) == b) := fun ⟨l⟩ => by simp
      rw [e, e]
      exact find_born (rel_of hes1) (fun n => (n : Int) == b)
    rw [hfi]
    split
    · refine sim_setObj hr1 hat1 ⟨rfl, rel_to ?_⟩
      rw [Array.toList_modify, Array.toList_modify]
      exact (rel_of hes1).modify _ fun e e' he => ⟨he.1, he.2.1, hv.frm hf⟩
    · exact sim_unsup _ _
end
end Go.AM
namespace Go.AM
open Go

/-- So many cells at an address. -/
def St.row? (σ : St) (a : Addr) (n : Nat) : Option (List Value) :=
  match σ.get a.block with
  | some (.cells cs _ _) => if a.off + n ≤ cs.length then some ((cs.drop a.off).take n) else none
  | _ => none

/-- What is appended, as cells. -/
def newCells (σ : St) (size : Nat) : Value → Option (Nat × List Value)
  | .slice none 0 0 => some (0, [])
  | .slice (some a) l c => if l * size = 0 then some (l, []) else (σ.row? a (l * size)).map fun r => (l, r)
  | .string s => if size = 1 then some (s.size, s.data.toList.map fun b => .int .u8 b.toNat) else none
  | _ => none

def nonInt (P : Program) (t : TypeId) : Bool :=
  match P.underlying t with
  | some (.int _) => false
  | some _ => true
  | none => false

/-- append(s, x), elements of 'size' cells and 'bytes' bytes, of type e. -/
def aAppend (P : Program) (ts : Array TypeId) (s x : Value) (σ : St) : Option (Value × St) :=
  match ts[0]?, ts[1]? with
  | some t0, some t1 =>
    match P.underlying t0, nonInt P t1 with
    | some (.slice e), true =>
      match (P.info? e).map fun i => (i.size, i.bytes, i.zero.map fun z => (cleanV z && z.cells.size == i.size) && !soleT P e) with
      | some (size, bytes, some true) =>
        if size = 0 ∨ bytes = 0 ∨ 65536 < bytes then none else
        match newCells σ size x, s with
        | some (n, cs), .slice none 0 0 =>
          if n = 0 then some (.slice none 0 0, σ) else
          if n * bytes ≤ 1099511627776 then some (.slice (some ⟨σ.n, 0, none⟩) n n, σ.alloc (.cells cs e true)) else none
        | some (n, cs), .slice (some a) l c =>
          if l + n ≤ c then
            match arun P (storeCells (a.add (l * size)) cs) σ with
            | some (_, σ1) => some (.slice (some a) (l + n) c, σ1)
            | none => none
          else
            match σ.get a.block with
            | some (.cells old e' true) =>
              if e' = e ∧ a.off + l * size ≤ old.length ∧ (l + n) * bytes ≤ 1099511627776 then
                some (.slice (some ⟨σ.n, 0, none⟩) (l + n) (l + n), (σ.put a.block .dead).alloc (.cells ((old.drop a.off).take (l * size) ++ cs) e true))
              else none
            | _ => none
        | _, _ => none
      | _ => none
    | _, _ => none
  | _, _ => none

section
variable {P : Program} {φ : PMap} {σ : St} {w : World}

theorem arun_loadFrom (a : Addr) (cs : List Value) (t : TypeId) (wr : Bool) (hg : σ.get a.block = some (.cells cs t wr)) (hs : a.spot = none) : ∀ (k i : Nat) (acc : Array Value), a.off + i + k ≤ cs.length →
    arun P (loadCellsFrom a i k acc) σ = some (acc ++ ((cs.drop (a.off + i)).take k).toArray, σ) := by
  intro k
  induction k with
  | zero => intro i acc h; simp [loadCellsFrom, arun_pure]
  | succ k ih =>
    intro i acc h
    have hlt : a.off + i < cs.length := by omega
    have hc : σ.cell? (a.add i) = some cs[a.off + i] := by
      obtain ⟨b, o, sp⟩ := a
      simp only at hs
      subst hs
      rw [addr_add]
      simp only [St.cell?]
      rw [show σ.get b = _ from hg]
      simp [List.getElem?_eq_getElem hlt]
    unfold loadCellsFrom
    rw [arun_bind]
    simp only [load, arun, hc, Option.bind_some]
    rw [ih (i + 1) _ (by omega)]
    congr 2
    have : List.drop (a.off + i) cs = cs[a.off + i] :: List.drop (a.off + (i + 1)) cs := by
      rw [List.drop_eq_getElem_cons hlt]; rfl
    rw [this, List.take_succ_cons]
    apply Array.ext'
    simp
theorem arun_loadCells (a : Addr) (n : Nat) {r : List Value} (hs : a.spot = none) (h : σ.row? a n = some r) : arun P (loadCells a n) σ = some (r.toArray, σ) := by
  unfold St.row? at h
  split at h
  · rename_i cs t wr hg
    split at h
    · rename_i hle
      injection h with h
      unfold loadCells
      rw [arun_loadFrom a cs t wr hg hs n 0 #[] (by omega)]
      simp [← h]
    · cases h
  · cases h

theorem row_cell {a : Addr} {n : Nat} {r : List Value} (hs : a.spot = none) (h : σ.row? a n = some r) : r.length = n ∧ ∀ (i : Nat) (v : Value), r[i]? = some v → σ.cell? (a.add i) = some v := by
  unfold St.row? at h
  split at h
  · rename_i cs t wr hg
    split at h
    · rename_i hle
      injection h with h
      subst h
      refine ⟨by simp; omega, fun i v hv => ?_⟩
      obtain ⟨b, o, sp⟩ := a
      simp only at hs
      subst hs
      rw [addr_add]
      simp only [St.cell?]
      rw [show σ.get b = _ from hg]
      simp only [Option.isSome_none, Bool.false_eq_true, if_false]
      by_cases hi : i < n
      · rw [List.getElem?_take_of_lt hi, List.getElem?_drop] at hv
        exact hv
      · rw [List.getElem?_eq_none (by simp; omega)] at hv
        cases hv
    · cases h
  · cases h
theorem row_run (hr : RH P φ σ w) {a a' : Addr} (ha : RA φ σ.n a a') {n : Nat} {r : List Value} (h : σ.row? a n = some r) :
    ∃ cs' : List Value, RVl φ σ.n r cs' ∧ cs'.length = n ∧ ∀ (i : Nat) (v : Value), cs'[i]? = some v → w.cell? (a'.add i) = some v := by
  have hs : a.spot = none := by obtain ⟨_, _, _, _, rfl, _⟩ := ha; rfl
  obtain ⟨hl, hc⟩ := row_cell hs h
  have key : ∀ (i : Nat) (v : Value), r[i]? = some v → ∃ v', w.cell? (a'.add i) = some v' ∧ RV φ σ.n v v' := fun i v hv => cell_of hr (ha.add i) (hc i v hv)
  have hget : ∀ (i : Nat), i < n → ((List.range n).map (fun i => (w.cell? (a'.add i)).getD undef))[i]? = some ((w.cell? (a'.add i)).getD undef) := fun i hi => by simp [hi]
  refine ⟨(List.range n).map (fun i => (w.cell? (a'.add i)).getD undef), RVl.of_get (by simp [hl]) fun i v hv => ?_, by simp, fun i v hv => ?_⟩
  · obtain ⟨v', h1, h2⟩ := key i v hv
    have hi : i < n := by rw [← hl]; exact (List.getElem?_eq_some_iff.1 hv).1
    exact ⟨v', by rw [hget i hi, h1]; rfl, h2⟩
  · have hi : i < n := by
      have := (List.getElem?_eq_some_iff.1 hv).1
      simpa using this
    rw [hget i hi] at hv
    obtain ⟨v', h1, h2⟩ := key i _ (List.getElem?_eq_getElem (by omega))
    rw [h1] at hv ⊢
    exact hv
theorem run_loadFrom (a' : Addr) : ∀ (l : List Value) (i : Nat) (acc : Array Value), (∀ (j : Nat) (v : Value), l[j]? = some v → w.cell? (a'.add (i + j)) = some v) →
    (loadCellsFrom a' i l.length acc).run P w = .ok (acc ++ l.toArray) w := by
  intro l
  induction l with
  | nil => intro i acc h; simp [loadCellsFrom]
  | cons x l ih =>
    intro i acc h
    have h0 : w.cell? (a'.add i) = some x := by simpa using h 0 x rfl
    simp only [List.length_cons, loadCellsFrom, Sem.run_bind, run_load, h0, Result.andThen_ok]
    rw [ih (i + 1) _ fun j v hv => by rw [show i + 1 + j = i + (j + 1) by omega]; exact h (j + 1) v (by simpa using hv)]
    congr 1
    apply Array.ext'
    simp
theorem run_loadCells_of {a' : Addr} {l : List Value} (h : ∀ (j : Nat) (v : Value), l[j]? = some v → w.cell? (a'.add j) = some v) : (loadCells a' l.length).run P w = .ok l.toArray w := by
  unfold loadCells
  rw [run_loadFrom a' l 0 #[] fun j v hv => by simpa using h j v hv]
  simp

/-- The real cells of what is appended. -/
theorem newCells_run (hr : RH P φ σ w) {x x' : Value} (hx : RV φ σ.n x x') {size n : Nat} {cs : List Value} (h : newCells σ size x = some (n, cs)) :
    (∀ w1 : World, (Builtin.lenOf x').run P w1 = .ok n w1) ∧ ∃ cs' : Array Value, (∀ w1 : World, w1.heap = w.heap → (Builtin.firstCells size n x').run P w1 = .ok cs' w1) ∧ RVl φ σ.n cs cs'.toList ∧ cs.length = n * size := by
  unfold newCells at h
  cases hx <;> (try dsimp only at h) <;> first | cases h | skip
  case string s =>
    split at h
    · rename_i hs
      subst hs
      injection h with h
      injection h with h1 h2
      subst h1 h2
      refine ⟨fun _ => rfl, _, fun _ _ => rfl, ?_, by simp⟩
      simp
      exact RVl.map fun b _ => .int _ _
    · cases h
  case nilSlice =>
    refine ⟨fun _ => rfl, #[], fun _ _ => by simp [Builtin.firstCells], .nil, by simp⟩
  case slice hd o o' l c c' g1 g2 g3 g4 g5 g6 =>
    by_cases h0 : l * size = 0
    · rw [if_pos h0] at h
      injection h with h
      injection h with h1 h2
      subst h1 h2
      refine ⟨fun _ => rfl, #[], fun _ _ => ?_, .nil, by simp [h0]⟩
      simp [Builtin.firstCells, loadCells, h0, loadCellsFrom]
    · rw [if_neg h0] at h
      cases hrow : σ.row? ⟨hd, o, none⟩ (l * size) with
      | none => simp [hrow] at h
      | some r =>
        simp [hrow] at h
        obtain ⟨h1, h2⟩ := h
        subst h1 h2
        have hpos : 0 < l := by
          rcases Nat.eq_zero_or_pos l with h | h
          · simp [h] at h0
          · exact h
        obtain ⟨cs', q1, q2, q3⟩ := row_run hr (a := ⟨hd, o, none⟩) (a' := ⟨(φ.at_ hd).block, o', none⟩) ⟨hd, o, g1, g2, rfl, by rw [g3 (by omega)]⟩ hrow
        refine ⟨fun _ => rfl, cs'.toArray, fun w1 hw1 => ?_, by simpa using q1, (row_cell rfl hrow).1⟩
        simp only [Builtin.firstCells]
        rw [← q2]
        exact run_loadCells_of fun j v hv => by
          have := q3 j v hv
          simpa only [World.cell?, hw1] using this

/-- The world with cells from an address on stored, all of them there and not frozen. -/
theorem run_storeCells (b : Nat) : ∀ (vs : List Value) (o i : Nat) (w : World) (cs : Array Value) (t : TypeId) (fr : Nat × Nat), w.heap[b]? = some (.cells cs t fr) → o + i + vs.length ≤ cs.size → (∀ j, j < cs.size → ¬ (fr.1 ≤ j ∧ j < fr.2)) →
    (∀ v, v ∈ vs → St.oneCell v = true) →
    ∃ w1 cs1, (storeCells ⟨b, o, none⟩ vs i).run P w = .ok () w1 ∧ w1.heap[b]? = some (.cells cs1 t fr) ∧ cs1.size = cs.size ∧ w1.heap.size = w.heap.size ∧ w1.os = w.os ∧ w1.tape = w.tape ∧ w1.output = w.output ∧ (∀ k, k ≠ b → w1.heap[k]? = w.heap[k]?) ∧
      (∀ j, j < o + i → cs1[j]? = cs[j]?) ∧ ∀ (j : Nat) (v : Value), vs[j]? = some v → cs1[o + i + j]? = some v := by
  intro vs
  induction vs with
  | nil =>
    intro o i w cs t fr hb hle hfr hone
    exact ⟨w, cs, rfl, hb, rfl, rfl, rfl, rfl, rfl, fun _ _ => rfl, fun _ _ => rfl, fun j v h => by simp at h⟩
  | cons v vs ih =>
    intro o i w cs t fr hb hle hfr hone
    simp only [List.length_cons] at hle
    have hlt : o + i < cs.size := by omega
    have hcell : w.cell? ⟨b, o + i, none⟩ = some cs[o + i] := by simp [World.cell?, hb, Array.getElem?_eq_getElem hlt]
    have hfz : w.frozen? ⟨b, o + i, none⟩ = false := by
      have := hfr _ hlt
      obtain ⟨lo, hi⟩ := fr
      simp only [World.frozen?, hb]
      simpa [Bool.and_eq_false_iff] using this
    have hone1 := hone v (by simp)
    have hrun : (store ⟨b, o + i, none⟩ v).run P w = .ok () (w.setCell ⟨b, o + i, none⟩ v) := by
      cases v <;> simp [Go.store, Sem.run, hcell, hfz, St.oneCell] at hone1 ⊢
    obtain ⟨w1, cs1, h1, h2, h3, h4, h5, h6, h7, h8, h9, h10⟩ := ih o (i + 1) (w.setCell ⟨b, o + i, none⟩ v) (cs.setIfInBounds (o + i) v) t fr (heap_set_at w hb) (by simp; omega) (by simpa using hfr) (fun u hu => hone u (by simp [hu]))
    refine ⟨w1, cs1, ?_, h2, by simpa using h3, h4.trans (heap_set_size _ _ _), h5, h6, h7, fun k hk => (h8 k hk).trans (heap_set_ne w hk), fun j hj => ?_, fun j u hu => ?_⟩
    · unfold storeCells
      rw [addr_add, Sem.run_bind, hrun]
      exact h1
    · rw [h9 j (by omega), Array.getElem?_setIfInBounds_ne (by omega)]
    · cases j with
      | zero =>
        simp only [List.getElem?_cons_zero, Option.some.injEq] at hu
        subst hu
        rw [Nat.add_zero, h9 (o + i) (by omega)]
        simp [hlt]
      | succ j =>
        rw [show o + i + (j + 1) = o + (i + 1) + j by omega]
        exact h10 j u (by simpa using hu)
end
end Go.AM
namespace Go.AM
open Go

section
variable {P : Program} {φ : PMap} {σ : St} {w : World}

theorem run_und {t : TypeId} {d : TypeDesc} (h : P.underlying t = some d) : (underlying t).run P w = .ok d w := by simp [underlying, program, h, Sem.run]
theorem run_info {t : TypeId} {d : TypeInfo} (h : P.info? t = some d) : (typeInfo t).run P w = .ok d w := by simp [typeInfo, program, h, Sem.run]
theorem run_size {t : TypeId} {d : TypeInfo} (h : P.info? t = some d) : (sizeOf t).run P w = .ok d.size w := by simp [sizeOf, run_info h]

theorem append_stay (ts : Array TypeId) (ty t0 t1 e : TypeId) (d1 : TypeDesc) (i : TypeInfo) (h0 : ts[0]? = some t0) (h1 : ts[1]? = some t1) (hu0 : P.underlying t0 = some (.slice e)) (hu1 : P.underlying t1 = some d1)
    (hni : ∀ k, d1 ≠ .int k) (hi : P.info? e = some i) (base : Option Addr) (l c n : Nat) (x : Value) (cs : Array Value) (hn : (Builtin.lenOf x).run P w = .ok n w) (hc : (Builtin.firstCells i.size n x).run P w = .ok cs w) (hle : l + n ≤ c) :
    (Builtin.append_ ts ty #[.slice base l c, x]).run P w = match base with
      | some a => (storeCells (a.add (l * i.size)) cs.toList).run P w |>.andThen fun _ w1 => .ok (.slice base (l + n) c) w1
      | none => .ok (.slice none (l + n) c) w := by
  have hd1 : ∀ {α : Type} (a b : α), (match d1 with | .int _ => a | _ => b) = b := by intro α a b; cases d1 <;> first | rfl | exact absurd rfl (hni _)
  unfold Builtin.append_
  simp only [h0, h1, List.getElem?_toArray, List.getElem?_cons_zero, List.getElem?_cons_succ, Sem.run_bind, run_und hu0, run_und hu1, Result.andThen_ok, run_size hi, Sem.run_pure, hd1]
  simp only [Bool.false_eq_true, if_false, Bool.not_false, if_true, Sem.run_bind, hn, Result.andThen_ok, if_pos hle, hc]
  cases base with
  | none => rfl
  | some a => simp only [Sem.run_bind, Sem.run_pure]

theorem nextcap_le (n c : Nat) (h : c < n) : Builtin.nextslicecap n c ≤ 2 * n + 1024 * 1024 * 1024 := by
  unfold Builtin.nextslicecap
  split
  · omega
  · split
    · omega
    · rename_i h1 h2
      have key : ∀ (k x : Nat), x ≤ 2 * n → Builtin.growBy n k x ≤ 2 * n + 1024 := by
        intro k
        induction k with
        | zero => intro x hx; simp only [Builtin.growBy]; omega
        | succ k ih =>
          intro x hx
          simp only [Builtin.growBy]
          split
          · omega
          · rename_i hlt
            by_cases h3 : x + (x + 768) / 4 ≤ 2 * n
            · exact ih _ h3
            · cases k with
              | zero => simp only [Builtin.growBy]; omega
              | succ k =>
                simp only [Builtin.growBy]
                rw [if_pos (by omega)]
                omega
      have := key 4 c (by omega)
      omega

theorem append_grow (ts : Array TypeId) (ty t0 t1 e : TypeId) (d1 : TypeDesc) (i : TypeInfo) (z : Value) (h0 : ts[0]? = some t0) (h1 : ts[1]? = some t1) (hu0 : P.underlying t0 = some (.slice e)) (hu1 : P.underlying t1 = some d1)
    (hni : ∀ k, d1 ≠ .int k) (hi : P.info? e = some i) (hz : i.zero = some z) (base : Option Addr) (l c n : Nat) (x : Value) (old cs : Array Value) (hn : ∀ w1 : World, w1.heap = w.heap → (Builtin.lenOf x).run P w1 = .ok n w1) (hold : ∀ w1 : World, w1.heap = w.heap → (Builtin.firstCells i.size l (.slice base l c)).run P w1 = .ok old w1)
    (hc : ∀ w1 : World, w1.heap = w.heap → (Builtin.firstCells i.size n x).run P w1 = .ok cs w1) (hle : ¬ l + n ≤ c) (hb0 : 0 < i.bytes) (hbig : (l + n) * i.bytes ≤ 1099511627776) (hb1 : i.bytes ≤ 65536) (hlc : l ≤ c) :
    ∃ (cap : Nat) (w1 : World), l + n ≤ cap ∧ w1.heap = w.heap ∧ w1.os = w.os ∧ w1.tape = w.tape ∧ w1.output = w.output ∧
      (Builtin.append_ ts ty #[.slice base l c, x]).run P w = .ok (.slice (some ⟨w.heap.size, 0, none⟩) (l + n) cap) (w1.alloc (.cells (old ++ cs ++ Builtin.zeroCells z.cells (cap - (l + n))) e)) := by
  have hd1 : ∀ {α : Type} (a b : α), (match d1 with | .int _ => a | _ => b) = b := by intro α a b; cases d1 <;> first | rfl | exact absurd rfl (hni _)
  have hzv : ∀ w1 : World, (zeroValue e).run P w1 = .ok z w1 := fun w1 => by simp [zeroValue, run_info hi, hz]
  have hroom : ∀ (k : Nat) (w1 : World), (askRoom k).run P w1 = .ok () w1 := fun k w1 => by unfold askRoom; split <;> rfl
  have hcap := nextcap_le (l + n) c (by omega)
  have hnext : ¬ Builtin.nextslicecap (l + n) c * i.bytes > 2 ^ 48 := by
    have h2 : Builtin.nextslicecap (l + n) c * i.bytes ≤ (2 * (l + n) + 1024 * 1024 * 1024) * i.bytes := Nat.mul_le_mul_right _ hcap
    have h3 : (2 * (l + n) + 1024 * 1024 * 1024) * i.bytes = 2 * ((l + n) * i.bytes) + 1024 * 1024 * 1024 * i.bytes := by rw [Nat.add_mul, Nat.mul_assoc]
    omega
  have hmax : ¬ (((l + n : Nat) : Int) > IntKind.i64.max ∧ (False ∨ i.bytes = 0)) := by
    rintro ⟨_, h | h⟩
    · cases h
    · omega
  refine ⟨(Question.appendCap (l + n) c e).cut (w.tape w.drawn (.appendCap (l + n) c e)), { w with drawn := w.drawn + 1 }, ?_, rfl, rfl, rfl, rfl, ?_⟩
  · simp only [Question.cut]; omega
  unfold Builtin.append_
  simp only [h0, h1, List.getElem?_toArray, List.getElem?_cons_zero, List.getElem?_cons_succ, Sem.run_bind, run_und hu0, run_und hu1, Result.andThen_ok, run_size hi, Sem.run_pure, hd1]
  simp only [Bool.false_eq_true, if_false, Bool.not_false, if_true, Sem.run_bind, hn w rfl, Result.andThen_ok, if_neg hle]
  simp only [run_info hi, Sem.run_bind, Sem.run_pure, Result.andThen_ok, if_neg hnext, hroom]
  rw [if_neg hmax]
  have hch : (choose (.appendCap (l + n) c e)).run P w = .ok ((Question.appendCap (l + n) c e).cut (w.tape w.drawn (.appendCap (l + n) c e))) { w with drawn := w.drawn + 1 } := rfl
  have hnr : ∀ (a : Array Value) (w1 : World), (newRow e a).run P w1 = .ok ⟨w1.heap.size, 0, none⟩ (w1.alloc (.cells a e)) := fun _ _ => rfl
  simp only [Sem.run_bind, run_info hi, Result.andThen_ok, if_neg hnext, hch, hroom, hold { w with drawn := w.drawn + 1 } rfl, hc { w with drawn := w.drawn + 1 } rfl, hzv, hnr, Sem.run_pure]
end
end Go.AM
namespace Go.AM
open Go

section
variable {P : Program} {φ : PMap} {σ : St} {w : World}

theorem RO.heap {w1 : World} {n h : Nat} {o : AObj} (e : w1.heap = w.heap) (ho : RO P φ n h w o) : RO P φ n h w1 o := ho.keep (by rw [e])
theorem RH.heap {w1 : World} (hr : RH P φ σ w) (e : w1.heap = w.heap) : RH P φ σ w1 := ⟨fun h o hg => (hr.objs h o hg).heap e, hr.apart⟩
theorem Frm.heap {w1 : World} (e : w1.heap = w.heap) (e1 : w1.os = w.os) (e2 : w1.tape = w.tape) (e3 : w1.output = w.output) : Frm φ σ w φ σ w1 :=
  ⟨Ext.refl _ _, Nat.le_refl _, by rw [e]; exact Nat.le_refl _, e1, e2, e3, fun b _ _ => by rw [e], fun b h => .inr h, fun k x hk hx => .inl ⟨St.get_lt hk, x, hk, hx⟩⟩

/-- A handle that is given up. -/
theorem RH.kill (hr : RH P φ σ w) {h : Nat} (hl : h < σ.n) : Frm φ σ w φ (σ.put h .dead) w ∧ RH P φ (σ.put h .dead) w := by
  have key : ∀ k x, (σ.put h .dead).get k = some x → (k = h ∧ x = .dead) ∨ (k ≠ h ∧ σ.get k = some x) := by
    intro k x hx
    rw [St.get_put σ _ hl] at hx
    split at hx
    · injection hx with hx
      exact .inl ⟨by assumption, hx.symm⟩
    · exact .inr ⟨by assumption, hx⟩
  constructor
  · refine ⟨Ext.refl _ _, Nat.le_refl _, Nat.le_refl _, rfl, rfl, rfl, fun _ _ _ => rfl, ?_, ?_⟩
    rintro b ⟨k, x, hk, hx, hb⟩
    rcases key k x hk with ⟨rfl, rfl⟩ | ⟨_, hk'⟩
    · simp [own] at hx
    · exact .inr ⟨k, x, hk', hx, hb⟩
    intro k x hk hx
    rcases key k x hk with ⟨rfl, rfl⟩ | ⟨_, hk'⟩
    · simp [live] at hx
    · exact .inl ⟨St.get_lt hk', x, hk', hx⟩
  · constructor
    · intro k x hk
      rcases key k x hk with ⟨rfl, rfl⟩ | ⟨_, hk'⟩
      · trivial
      · exact hr.objs k x hk'
    · intro k1 k2 x1 x2 h1 h2 hx1 hx2 hk
      rcases key k1 x1 h1 with ⟨rfl, rfl⟩ | ⟨_, h1'⟩
      · simp [own] at hx1
      · rcases key k2 x2 h2 with ⟨rfl, rfl⟩ | ⟨_, h2'⟩
        · simp [live] at hx2
        · exact hr.apart k1 k2 x1 x2 h1' h2' hx1 hx2 hk

/-- A new row in a new block. -/
theorem RH.row (hr : RH P φ σ w) {w1 : World} (e : w1.heap = w.heap) (e1 : w1.os = w.os) (e2 : w1.tape = w.tape) (e3 : w1.output = w.output) (t : TypeId) {cs : List Value} {cs' : Array Value}
    (hc : ∀ (i : Nat) (v : Value), cs[i]? = some v → ∃ v' : Value, cs'[i]? = some v' ∧ RV φ σ.n v v') (hall : cs.all St.oneCell = true) (hlen : cs.length ≤ cs'.size) (hsole : soleT P t = false) :
    ∃ φ1, Ext φ φ1 σ.n ∧ φ1.at_ σ.n = ⟨w.heap.size, 0, none⟩ ∧ φ1.room σ.n = cs'.size ∧ (∀ s, szOf P t = some s → φ1.sz σ.n = s) ∧ Frm φ σ w φ1 (σ.alloc (.cells cs t true)) (w1.alloc (.cells cs' t)) ∧ RH P φ1 (σ.alloc (.cells cs t true)) (w1.alloc (.cells cs' t)) := by
  have hsz : w1.heap.size = w.heap.size := by rw [e]
  have hatn : (φ.new σ.n ⟨w.heap.size, 0, none⟩ cs'.size ((szOf P t).getD 0)).at_ σ.n = ⟨w.heap.size, 0, none⟩ := by simp [PMap.new]
  have hro : RO P (φ.new σ.n ⟨w.heap.size, 0, none⟩ cs'.size ((szOf P t).getD 0)) (σ.n + 1) σ.n (w1.alloc (.cells cs' t)) (.cells cs t true) := by
    refine ⟨⟨by rw [hatn], hall⟩, cs', t, (0, 0), ?_, fun i v hv => ?_, fun s hs => ?_, fun _ => ⟨rfl, ?_, ?_, fun i _ h => ?_, fun h => by rw [hsole] at h; cases h⟩⟩
    · rw [hatn]
      show (w1.heap.push _)[w.heap.size]? = _
      rw [← hsz]
      simp
    · obtain ⟨v', h1, h2⟩ := hc i v hv
      exact ⟨v', by rw [hatn]; simpa using h1, h2.mono (PMap.new_ext _ _ _ _ _) (Nat.le_succ _)⟩
    · simp [PMap.new, hs]
    · simp [PMap.new]
    · simp [PMap.new]; exact hlen
    · simp at h
  have hr1 := hr.heap e
  have hal := hr1.alloc (o := .cells cs t true) (ob := .cells cs' t) cs'.size ((szOf P t).getD 0) rfl hr1.inside
  rw [hsz] at hal
  obtain ⟨p1, p2⟩ := hal hro
  exact ⟨_, PMap.new_ext _ _ _ _ _, hatn, by simp [PMap.new], fun s hs => by simp [PMap.new, hs], (Frm.heap e e1 e2 e3).trans p1, p2⟩

theorem get_app {cs ds : List Value} {cs' ds' es' : Array Value} {n : Nat} (h : RVl φ n cs cs'.toList) (h' : RVl φ n ds ds'.toList) (i : Nat) (v : Value) (hv : (cs ++ ds)[i]? = some v) : ∃ v' : Value, (cs' ++ ds' ++ es')[i]? = some v' ∧ RV φ n v v' := by
  obtain ⟨v', h1, h2⟩ := (h.append h').get i hv
  refine ⟨v', ?_, h2⟩
  have hlt := (List.getElem?_eq_some_iff.1 h1).1
  rw [← Array.getElem?_toList, Array.toList_append, Array.toList_append, List.getElem?_append_left hlt]
  exact h1

theorem row_one (hr : RH P φ σ w) {a : Addr} {n : Nat} {r : List Value} (h : σ.row? a n = some r) : r.all St.oneCell = true := by
  unfold St.row? at h
  split at h
  · rename_i cs t wr hg
    split at h
    · injection h with h
      obtain ⟨⟨_, hall⟩, _⟩ := hr.objs _ _ hg
      rw [← h, List.all_eq_true]
      intro x hx
      exact List.all_eq_true.1 hall x (List.mem_of_mem_drop (List.mem_of_mem_take hx))
    · cases h
  · cases h
theorem newCells_one (hr : RH P φ σ w) {x : Value} {size n : Nat} {cs : List Value} (h : newCells σ size x = some (n, cs)) : cs.all St.oneCell = true := by
  unfold newCells at h
  split at h
  · injection h with h; injection h with _ h; rw [← h]; rfl
  · split at h
    · injection h with h; injection h with _ h; rw [← h]; rfl
    · rw [Option.map_eq_some_iff] at h
      obtain ⟨r, h1, h2⟩ := h
      injection h2 with _ h2
      rw [← h2]
      exact row_one hr h1
  · split at h
    · injection h with h; injection h with _ h; rw [← h, List.all_eq_true]
      intro y hy
      rw [List.mem_map] at hy
      obtain ⟨b, _, rfl⟩ := hy
      rfl
    · cases h
  · cases h
theorem zeroCells_size (z : Array Value) (n : Nat) : (Builtin.zeroCells z n).size = n * z.size := by simp [Builtin.zeroCells]

theorem aAppend_sim (hr : RH P φ σ w) {s s' x x' : Value} (hs : RV φ σ.n s s') (hx : RV φ σ.n x x') {ts : Array TypeId} {ty : TypeId} {r : Value} {σ1 : St} (h : aAppend P ts s x σ = some (r, σ1)) :
    ∃ φ1 w1 r', (Builtin.append_ ts ty #[s', x']).run P w = .ok r' w1 ∧ Frm φ σ w φ1 σ1 w1 ∧ RH P φ1 σ1 w1 ∧ RV φ1 σ1.n r r' := by
  unfold aAppend at h
  cases h0 : ts[0]? with
  | none => simp [h0] at h
  | some t0 =>
  cases h1 : ts[1]? with
  | none => simp [h0, h1] at h
  | some t1 =>
  simp only [h0, h1] at h
  split at h
  case h_2 => cases h
  rename_i e hu0 hn1
  obtain ⟨d1, hu1, hni⟩ : ∃ d1, P.underlying t1 = some d1 ∧ ∀ k, d1 ≠ .int k := by
    unfold nonInt at hn1
    split at hn1
    · cases hn1
    · rename_i d hnd hd
      exact ⟨d, hd, fun k hk => hnd k hk⟩
    · cases hn1
  split at h
  case h_2 => cases h
  rename_i size bytes hinfo
  obtain ⟨i, hi, hii⟩ := Option.map_eq_some_iff.1 hinfo
  simp only [Prod.mk.injEq] at hii
  obtain ⟨rfl, rfl, hzz⟩ := hii
  obtain ⟨z, hz, hzc⟩ := Option.map_eq_some_iff.1 hzz
  obtain ⟨hzsz, hsole⟩ : z.cells.size = i.size ∧ soleT P e = false := by simp only [Bool.and_eq_true, beq_iff_eq, Bool.not_eq_true'] at hzc; exact ⟨hzc.1.2, hzc.2⟩
  have hone : ∀ {n cs}, newCells σ i.size x = some (n, cs) → cs.all St.oneCell = true := fun h => newCells_one hr h
  have hszE : szOf P e = some i.size := by simp [szOf, hi]
  split at h
  case isTrue => cases h
  rename_i hne
  have hs0 : 0 < i.size := by omega
  have hb0 : 0 < i.bytes := by omega
  have hb1 : i.bytes ≤ 65536 := by omega
  split at h
  case h_3 => cases h
  case h_1 n cs hcs =>
    obtain ⟨hn, cs', hc, hrc, hlc⟩ := newCells_run hr hx hcs
    cases hs
    split at h
    · rename_i hn0
      subst hn0
      injection h with h
      injection h with e1 e2
      subst e1 e2
      refine ⟨φ, w, .slice none 0 0, ?_, Frm.refl _ _ _, hr, .nilSlice⟩
      rw [append_stay ts ty t0 t1 e d1 i h0 h1 hu0 hu1 hni hi none 0 0 0 x' cs' (hn w) (hc w rfl) (Nat.le_refl _)]
    · rename_i hn0
      split at h
      case isFalse => cases h
      rename_i hbig
      injection h with h
      injection h with e1 e2
      subst e1 e2
      obtain ⟨cap, w1, g1, g2, g3, g4, g5, g6⟩ := append_grow (P := P) (w := w) ts ty t0 t1 e d1 i z h0 h1 hu0 hu1 hni hi hz none 0 0 n x' #[] cs' (fun w1 _ => hn w1) (fun w1 _ => by simp [Builtin.firstCells]) hc (by omega) hb0 (by simpa using hbig) hb1 (Nat.le_refl _)
      obtain ⟨φ1, q1, q2, q3, q4, q5, q6⟩ := hr.row (w1 := w1) g2 g3 g4 g5 e (cs := cs) (cs' := #[] ++ cs' ++ Builtin.zeroCells z.cells (cap - (0 + n)))
        (fun j v hv => by simpa using get_app (cs := []) (cs' := #[]) .nil hrc j v (by simpa using hv)) (hone hcs) (by simp; have := hrc.length; simp at this; omega) hsole
      refine ⟨φ1, _, _, g6, q5, q6, ?_⟩
      have e0 : (⟨w.heap.size, 0, none⟩ : Addr) = ⟨(φ1.at_ σ.n).block, (φ1.at_ σ.n).off + 0, none⟩ := by rw [q2]
      rw [e0, Nat.zero_add]
      refine .slice σ.n 0 _ n n cap (Nat.lt_succ_self _) (by rw [q2]) (fun _ => rfl) (Nat.le_refl _) (by omega) (.inr ?_)
      rw [q2, q3, q4 _ hszE]
      have hlen := hrc.length
      have e1 : cs'.size = n * i.size := by rw [← hlc, hlen]; simp
      simp only [Array.size_append, zeroCells_size, hzsz, e1]
      have e2 : n * i.size + (cap - (0 + n)) * i.size = cap * i.size := by rw [← Nat.add_mul]; congr 1; omega
      have e3 : (#[] : Array Value).size = 0 := rfl
      rw [e3]
      omega
  case h_2 n cs a l c hcs =>
    obtain ⟨hn, cs', hc, hrc, hlc⟩ := newCells_run hr hx hcs
    cases hs with
    | slice hd o o' l c c' g1 g2 g3 g4 g5 g6 =>
    dsimp only at h
    split at h
    · rename_i hle
      split at h
      case h_2 => cases h
      rename_i u σ2 hst
      injection h with h
      injection h with e1 e2
      subst e1 e2
      have hrun := append_stay (P := P) (w := w) ts ty t0 t1 e d1 i h0 h1 hu0 hu1 hni hi (some ⟨(φ.at_ hd).block, o', none⟩) l c' n x' cs' (hn w) (hc w rfl) (by omega)
      have hlen := hrc.length
      by_cases hc0 : c = 0
      · have hcs0 : cs = [] := by
          have : n = 0 := by omega
          subst this
          exact List.eq_nil_of_length_eq_zero (by simpa using hlc)
        subst hcs0
        have hcs0' : cs'.toList = [] := List.eq_nil_of_length_eq_zero (by simpa using hlen.symm)
        simp only [storeCells, arun_pure, Option.some.injEq, Prod.mk.injEq] at hst
        obtain ⟨_, rfl⟩ := hst
        refine ⟨φ, w, _, ?_, Frm.refl _ _ _, hr, .slice hd o o' (l + n) c c' g1 g2 g3 hle g5 g6⟩
        rw [hrun, hcs0']
        rfl
      · obtain ⟨φ1, w1, b, q1, q2, q3, _⟩ := sim_storeCells hr (a := (⟨hd, o, none⟩ : Addr).add (l * i.size)) (a' := (⟨(φ.at_ hd).block, o', none⟩ : Addr).add (l * i.size)) (RA.add ⟨hd, o, g1, g2, rfl, by rw [g3 (by omega)]⟩ _) hrc u σ2 hst
        refine ⟨φ1, w1, .slice (some ⟨(φ.at_ hd).block, o', none⟩) (l + n) c', ?_, q2, q3, ?_⟩
        · rw [hrun]
          simp only [q1, Result.andThen_ok]
        · exact (RV.slice hd o o' (l + n) c c' g1 g2 g3 hle g5 g6).mono q2.ext q2.n_le
    · rename_i hle
      split at h
      case h_2 => cases h
      rename_i old e' hg
      split at h
      case isFalse => cases h
      rename_i hcond
      obtain ⟨rfl, hin, hbig⟩ := hcond
      injection h with h
      injection h with e1 e2
      subst e1 e2
      obtain ⟨hsp, rc, rt, rf, hh, hcell, hsz, hw⟩ := hr.objs hd _ hg
      obtain ⟨rfl, hroom, holdlen, hfr, _⟩ := hw rfl
      have hsz' : φ.sz hd = i.size := hsz _ hszE
      -- the old cells, of the real one too
      have hold : newCells σ i.size (.slice (some ⟨hd, o, none⟩) l c) = some (l, (old.drop o).take (l * i.size)) := by
        unfold newCells
        dsimp only
        split
        · rename_i h0; simp [h0]
        · rename_i h0
          simp only [St.row?]
          rw [show σ.get hd = _ from hg]
          simp [hin]
      obtain ⟨_, old', hc2, hrc2, hlc2⟩ := newCells_run hr (.slice hd o o' l c c' g1 g2 g3 g4 g5 g6) hold
      have hlen := hrc.length
      have hlen2 := hrc2.length
      have hall2 : ((old.drop o).take (l * i.size) ++ cs).all St.oneCell = true := by rw [List.all_append, newCells_one hr hold, hone hcs]; rfl
      have ecs : cs'.size = n * i.size := by rw [← hlc, hlen]; simp
      have eold : old'.size = l * i.size := by rw [← hlc2, hlen2]; simp
      by_cases hle' : l + n ≤ c'
      · -- in place
        have hne : c ≠ c' := by omega
        have hrm : o' + c' * i.size ≤ (φ.at_ hd).off + φ.room hd := by
          rcases g6 with h6 | h6
          · exact absurd h6 hne
          · rw [hsz'] at h6; exact h6
        have hmul : l * i.size + n * i.size ≤ c' * i.size := by rw [← Nat.add_mul]; exact Nat.mul_le_mul_right _ hle'
        have hmul2 : (l + n) * i.size = l * i.size + n * i.size := Nat.add_mul _ _ _
        have hrun := append_stay (P := P) (w := w) ts ty t0 t1 rt d1 i h0 h1 hu0 hu1 hni hi (some ⟨(φ.at_ hd).block, o', none⟩) l c' n x' cs' (hn w) (hc w rfl) hle'
        dsimp only at hrun
        rw [addr_add] at hrun
        have honeR : ∀ v, v ∈ cs'.toList → St.oneCell v = true := by
          intro v hv
          obtain ⟨j, hj⟩ := List.getElem?_of_mem hv
          have hjl : j < cs.length := by rw [hlen]; exact (List.getElem?_eq_some_iff.1 hj).1
          obtain ⟨v', hv1, hv2⟩ := hrc.get j (List.getElem?_eq_getElem hjl)
          rw [hj] at hv1
          injection hv1 with hv1
          subst hv1
          rw [hv2.one]
          exact List.all_eq_true.1 (hone hcs) _ (List.getElem_mem hjl)
        obtain ⟨w1, cs1, k1, k2, k3, k4, k5, k6, k7, k8, k9, k10⟩ := run_storeCells (P := P) (φ.at_ hd).block cs'.toList (o' + l * i.size) 0 w rc rt rf hh (by simp [ecs]; omega) hfr honeR
        have hat : ∀ k, k ≠ σ.n → (φ.new σ.n ⟨(φ.at_ hd).block, o', none⟩ ((φ.at_ hd).off + φ.room hd - o') i.size).at_ k = φ.at_ k := fun k hk => by simp [PMap.new, hk]
        have hatn : (φ.new σ.n ⟨(φ.at_ hd).block, o', none⟩ ((φ.at_ hd).off + φ.room hd - o') i.size).at_ σ.n = ⟨(φ.at_ hd).block, o', none⟩ := by simp [PMap.new]
        have hkey : ∀ k y, ((σ.put hd .dead).alloc (.cells ((old.drop o).take (l * i.size) ++ cs) rt true)).get k = some y → (k = σ.n ∧ y = .cells ((old.drop o).take (l * i.size) ++ cs) rt true) ∨ (k = hd ∧ y = .dead) ∨ (k ≠ σ.n ∧ k ≠ hd ∧ σ.get k = some y) := by
          intro k y hy
          rw [St.get_alloc] at hy
          split at hy
          · rename_i e; injection hy with hy; exact .inl ⟨e, hy.symm⟩
          · rename_i e
            rw [St.get_put σ _ g1] at hy
            split at hy
            · rename_i e'; injection hy with hy; exact .inr (.inl ⟨e', hy.symm⟩)
            · rename_i e'; exact .inr (.inr ⟨e, e', hy⟩)
        refine ⟨φ.new σ.n ⟨(φ.at_ hd).block, o', none⟩ ((φ.at_ hd).off + φ.room hd - o') i.size, w1, .slice (some ⟨(φ.at_ hd).block, o', none⟩) (l + n) c', ?_, ?_, ?_, ?_⟩
        · rw [hrun]
          simp only [k1, Result.andThen_ok]
        · refine ⟨PMap.new_ext _ _ _ _ _, by simp, by omega, k5, k6, k7, fun b hb hnb => k8 b fun e => hnb ⟨hd, _, hg, rfl, e.symm⟩, ?_, ?_⟩
          rintro b ⟨k, y, hk, hy, rfl⟩
          rcases hkey k y hk with ⟨rfl, rfl⟩ | ⟨rfl, rfl⟩ | ⟨e1, e2, hk'⟩
          · rw [hatn]; exact .inr ⟨hd, _, hg, rfl, rfl⟩
          · simp [own] at hy
          · rw [hat k e1]; exact .inr ⟨k, y, hk', hy, rfl⟩
          intro k y hk hy
          rcases hkey k y hk with ⟨rfl, rfl⟩ | ⟨rfl, rfl⟩ | ⟨e1, e2, hk'⟩
          · rw [hatn]; exact .inr ⟨Nat.le_refl _, .inr ⟨hd, _, hg, rfl, rfl⟩⟩
          · simp [live] at hy
          · exact .inl ⟨St.get_lt hk', y, hk', hy⟩
        · constructor
          · intro k y hk
            rcases hkey k y hk with ⟨rfl, rfl⟩ | ⟨rfl, rfl⟩ | ⟨e1, e2, hk'⟩
            · refine ⟨⟨by rw [hatn], hall2⟩, cs1, rt, rf, by rw [hatn]; exact k2, fun j v hv => ?_, fun s hs => ?_, fun _ => ⟨rfl, ?_, ?_, by rw [k3]; exact hfr, fun h => by rw [hsole] at h; cases h⟩⟩
              · rw [hatn]
                dsimp only
                by_cases hj : j < l * i.size
                · rw [List.getElem?_append_left (by rw [hlc2]; exact hj)] at hv
                  have hl0 : 0 < l := by rcases Nat.eq_zero_or_pos l with h | h; · simp [h] at hj
                                         · exact h
                  rw [List.getElem?_take_of_lt hj, List.getElem?_drop] at hv
                  obtain ⟨v', r1, r2⟩ := hcell _ v hv
                  refine ⟨v', ?_, r2.mono (PMap.new_ext _ _ _ _ _) (by simp)⟩
                  rw [k9 _ (by omega), g3 (by omega), Nat.add_assoc]
                  exact r1
                · rw [List.getElem?_append_right (by rw [hlc2]; omega), hlc2] at hv
                  obtain ⟨v', r1, r2⟩ := hrc.get _ hv
                  refine ⟨v', ?_, r2.mono (PMap.new_ext _ _ _ _ _) (by simp)⟩
                  have := k10 _ v' r1
                  rw [← this]
                  congr 1
                  omega
              · simp only [PMap.new, if_true]
                rw [hszE] at hs
                injection hs
              · rw [hatn, k3]
                simp only [PMap.new, if_true]
                omega
              · simp only [PMap.new, if_true, List.length_append, hlc2, hlc]
                omega
            · trivial
            · by_cases hl : live y = true
              · refine RO.mono (PMap.new_ext _ _ _ _ _) (by simp) (St.get_lt hk') (RO.keep (k8 _ ?_) (hr.objs k y hk'))
                exact (hr.apart hd k _ y hg hk' rfl hl (fun e => e2 e.symm)).symm
              · cases y <;> simp_all [live, RO]
          · intro j1 j2 y1 y2 hj1 hj2 hy1 hy2 hne2
            rcases hkey j1 y1 hj1 with ⟨rfl, rfl⟩ | ⟨rfl, rfl⟩ | ⟨e1, e2, hj1'⟩
            · rcases hkey j2 y2 hj2 with ⟨rfl, rfl⟩ | ⟨rfl, rfl⟩ | ⟨e3, e4, hj2'⟩
              · exact absurd rfl hne2
              · simp [live] at hy2
              · rw [hatn, hat j2 e3]
                exact hr.apart hd j2 _ y2 hg hj2' rfl hy2 (fun e => e4 e.symm)
            · simp [own] at hy1
            · rcases hkey j2 y2 hj2 with ⟨rfl, rfl⟩ | ⟨rfl, rfl⟩ | ⟨e3, e4, hj2'⟩
              · rw [hatn, hat j1 e1]
                exact hr.apart j1 hd y1 _ hj1' hg hy1 rfl e2
              · simp [live] at hy2
              · rw [hat j1 e1, hat j2 e3]
                exact hr.apart j1 j2 y1 y2 hj1' hj2' hy1 hy2 hne2
        · have hfin := RV.slice (φ := φ.new σ.n ⟨(φ.at_ hd).block, o', none⟩ ((φ.at_ hd).off + φ.room hd - o') i.size) (n := σ.n + 1) σ.n 0 o' (l + n) (l + n) c' (Nat.lt_succ_self _) (by rw [hatn]) (fun _ => by rw [hatn]; rfl) (Nat.le_refl _) hle' (.inr (by rw [hatn]; simp only [PMap.new, if_true]; omega))
          rw [hatn] at hfin
          exact hfin
      · obtain ⟨cap, w1, q1, q2, q3, q4, q5, q6⟩ := append_grow (P := P) (w := w) ts ty t0 t1 rt d1 i z h0 h1 hu0 hu1 hni hi hz (some ⟨(φ.at_ hd).block, o', none⟩) l c' n x' old' cs' (fun w1 _ => hn w1) hc2 hc hle' hb0 hbig hb1 (by omega)
        obtain ⟨k1, k2⟩ := hr.kill g1
        have hrel : RVl φ (σ.put hd .dead).n ((old.drop o).take (l * i.size)) old'.toList := hrc2
        obtain ⟨φ1, p1, p2, p3, p4, p5, p6⟩ := k2.row (w1 := w1) q2 q3 q4 q5 rt (cs := (old.drop o).take (l * i.size) ++ cs) (cs' := old' ++ cs' ++ Builtin.zeroCells z.cells (cap - (l + n)))
          (fun j v hv => get_app hrel hrc j v hv) hall2 (by simp only [List.length_append, Array.size_append]; rw [hlen, hlen2]; simp) hsole
        refine ⟨φ1, _, _, q6, k1.trans p5, p6, ?_⟩
        have e0 : (⟨w.heap.size, 0, none⟩ : Addr) = ⟨(φ1.at_ σ.n).block, (φ1.at_ σ.n).off + 0, none⟩ := by rw [show φ1.at_ σ.n = _ from p2]
        rw [e0]
        refine .slice σ.n 0 _ _ _ cap (Nat.lt_succ_self _) (by rw [show φ1.at_ σ.n = _ from p2]) (fun _ => rfl) (Nat.le_refl _) q1 (.inr ?_)
        rw [show φ1.at_ σ.n = _ from p2, show φ1.room σ.n = _ from p3, show φ1.sz σ.n = _ from p4 _ hszE]
        simp only [Array.size_append, zeroCells_size, hzsz, ecs, eold]
        have e2 : l * i.size + n * i.size + (cap - (l + n)) * i.size = cap * i.size := by rw [← Nat.add_mul, ← Nat.add_mul]; congr 1; omega
        simp
        omega
end
end Go.AM
namespace Go.AM
open Go

section
variable {P : Program} {φ : PMap} {σ : St} {w : World}

/-- append([]T(nil), make([]T, k)...). -/
def aGrow (P : Program) (ts : Array TypeId) (k : Int) (σ : St) : Option (Value × St) :=
  match ts[0]?, ts[1]? with
  | some t0, some t1 =>
    match P.underlying t0, P.underlying t1 with
    | some (.slice e), some (.int _) =>
      match (P.info? e).bind fun i => i.zero.map fun z => (i.size, i.bytes, z) with
      | some (size, bytes, z) =>
        if 0 < k ∧ 0 < size ∧ 0 < bytes ∧ bytes ≤ 65536 ∧ k.toNat * bytes ≤ 1099511627776 ∧ z.cells.size = size ∧ z.cells.toList.all cleanV = true ∧ z.cells.toList.all St.oneCell = true ∧ soleT P e = false then
          some (.slice (some ⟨σ.n, 0, none⟩) k.toNat k.toNat, σ.alloc (.cells (Builtin.zeroCells z.cells k.toNat).toList e true))
        else none
      | none => none
    | _, _ => none
  | _, _ => none

theorem wrap_small {k : Int} (h0 : 0 < k) (h1 : k ≤ 1099511627776) : IntKind.i64.wrap k = k := by
  simp only [IntKind.wrap, IntKind.bits, IntKind.signed, Bool.true_and, Nat.reduceSub, Int.reducePow, ge_iff_le, decide_eq_true_eq]
  split <;> omega

theorem grow_nil (ts : Array TypeId) (ty t0 t1 e : TypeId) (kk kx : IntKind) (i : TypeInfo) (z : Value) (h0 : ts[0]? = some t0) (h1 : ts[1]? = some t1) (hu0 : P.underlying t0 = some (.slice e)) (hu1 : P.underlying t1 = some (.int kk))
    (hi : P.info? e = some i) (hz : i.zero = some z) (k : Int) (hk : 0 < k) (hb0 : 0 < i.bytes) (hs0 : 0 < i.size) (hbig : k.toNat * i.bytes ≤ 1099511627776) (hb1 : i.bytes ≤ 65536) :
    ∃ (cap : Nat) (w1 : World), k.toNat ≤ cap ∧ w1.heap = w.heap ∧ w1.os = w.os ∧ w1.tape = w.tape ∧ w1.output = w.output ∧
      (Builtin.append_ ts ty #[.slice none 0 0, .int kx k]).run P w = .ok (.slice (some ⟨w.heap.size, 0, none⟩) (0 + k.toNat) cap) (w1.alloc (.cells (#[] ++ Builtin.zeroCells z.cells k.toNat ++ Builtin.zeroCells z.cells (cap - (0 + k.toNat))) e)) := by
  have hzv : ∀ w1 : World, (zeroValue e).run P w1 = .ok z w1 := fun w1 => by simp [zeroValue, run_info hi, hz]
  have hroom : ∀ (k : Nat) (w1 : World), (askRoom k).run P w1 = .ok () w1 := fun k w1 => by unfold askRoom; split <;> rfl
  have hn1 : k.toNat ≤ 1099511627776 := Nat.le_trans (Nat.le_mul_of_pos_right _ hb0) hbig
  have hw : IntKind.i64.wrap k = k := wrap_small hk (by omega)
  have hcap := nextcap_le (0 + k.toNat) 0 (by omega)
  have hnext : ¬ Builtin.nextslicecap (0 + k.toNat) 0 * i.bytes > 2 ^ 48 := by
    have h2 : Builtin.nextslicecap (0 + k.toNat) 0 * i.bytes ≤ (2 * (0 + k.toNat) + 1024 * 1024 * 1024) * i.bytes := Nat.mul_le_mul_right _ hcap
    have h3 : (2 * (0 + k.toNat) + 1024 * 1024 * 1024) * i.bytes = 2 * (k.toNat * i.bytes) + 1024 * 1024 * 1024 * i.bytes := by rw [Nat.add_mul, Nat.mul_assoc, Nat.zero_add]
    omega
  have hmax : ¬ (((0 + k.toNat : Nat) : Int) > IntKind.i64.max ∧ (True ∨ i.bytes = 0)) := by
    rintro ⟨h, _⟩
    have : IntKind.i64.max = 9223372036854775807 := by decide
    omega
  have hprod : ¬ k * (i.bytes : Int) > 2 ^ 48 := by
    have e1 : k * (i.bytes : Int) = ((k.toNat * i.bytes : Nat) : Int) := by
      rw [Int.natCast_mul, Int.toNat_of_nonneg (by omega)]
    rw [e1]
    omega
  have hle : ¬ 0 + k.toNat ≤ 0 := by omega
  have hns : ¬ k.toNat * i.size = 0 := by
    have := Nat.mul_pos (show 0 < k.toNat by omega) hs0
    omega
  have hlt : ¬ k < 0 := by omega
  refine ⟨(Question.appendCap (0 + k.toNat) 0 e).cut (w.tape w.drawn (.appendCap (0 + k.toNat) 0 e)), { w with drawn := w.drawn + 1 }, ?_, rfl, rfl, rfl, rfl, ?_⟩
  · simp only [Question.cut]; omega
  unfold Builtin.append_
  simp only [h0, h1, List.getElem?_toArray, List.getElem?_cons_zero, List.getElem?_cons_succ, Sem.run_bind, run_und hu0, run_und hu1, Result.andThen_ok, run_size hi, Sem.run_pure, asInt, asIntOf, hw]
  have hch : (choose (.appendCap (0 + k.toNat) 0 e)).run P w = .ok ((Question.appendCap (0 + k.toNat) 0 e).cut (w.tape w.drawn (.appendCap (0 + k.toNat) 0 e))) { w with drawn := w.drawn + 1 } := rfl
  have hnr : ∀ (a : Array Value) (w1 : World), (newRow e a).run P w1 = .ok ⟨w1.heap.size, 0, none⟩ (w1.alloc (.cells a e)) := fun _ _ => rfl
  simp only [hw, if_true, Bool.not_true, Bool.false_eq_true, if_false, Sem.run_bind, run_info hi, Result.andThen_ok, if_neg hlt, if_neg hprod, Sem.run_pure, if_neg hle, if_neg hmax, if_neg hnext, hch, hroom, Builtin.firstCells, if_neg hns, hzv, hnr]
theorem aGrow_sim (hr : RH P φ σ w) {k : Int} {kx : IntKind} {ts : Array TypeId} {ty : TypeId} {r : Value} {σ1 : St} (h : aGrow P ts k σ = some (r, σ1)) :
    ∃ φ1 w1 r', (Builtin.append_ ts ty #[.slice none 0 0, .int kx k]).run P w = .ok r' w1 ∧ Frm φ σ w φ1 σ1 w1 ∧ RH P φ1 σ1 w1 ∧ RV φ1 σ1.n r r' := by
  unfold aGrow at h
  split at h
  case h_2 => cases h
  rename_i t0 t1 h0 h1
  split at h
  case h_2 => cases h
  rename_i e kk hu0 hu1
  split at h
  case h_2 => cases h
  rename_i size bytes z hinfo
  rw [Option.bind_eq_some_iff] at hinfo
  obtain ⟨i, hi, hii⟩ := hinfo
  rw [Option.map_eq_some_iff] at hii
  obtain ⟨z', hz, he⟩ := hii
  injection he with e1 e2
  injection e2 with e2 e3
  subst e1 e2 e3
  split at h
  case isFalse => cases h
  rename_i hc
  obtain ⟨c1, c2, c3, c4, c5, c6, c7, c8, c9⟩ := hc
  injection h with h
  injection h with g1 g2
  subst g1 g2
  obtain ⟨cap, w1, q1, q2, q3, q4, q5, q6⟩ := grow_nil (P := P) (w := w) ts ty t0 t1 e kk kx i z' h0 h1 hu0 hu1 hi hz k c1 c3 c2 c5 c4
  have hzc : ∀ x ∈ (Builtin.zeroCells z'.cells k.toNat).toList, x ∈ z'.cells.toList := by
    intro x hx
    simp only [Builtin.zeroCells, Array.toList_map, List.mem_map] at hx
    obtain ⟨j, _, rfl⟩ := hx
    have hlt : j % z'.cells.size < z'.cells.size := Nat.mod_lt _ (by omega)
    rw [getElem!_pos z'.cells _ hlt]
    exact Array.mem_toList_iff.2 (Array.getElem_mem hlt)
  have hrel : RVl φ σ.n (Builtin.zeroCells z'.cells k.toNat).toList (Builtin.zeroCells z'.cells k.toNat).toList := by
    have : ∀ l : List Value, (∀ x ∈ l, cleanV x = true) → RVl φ σ.n l l := by
      intro l
      induction l with
      | nil => intro _; exact .nil
      | cons y l ih => intro hl; exact .cons (rv_clean (hl y (by simp)) φ σ.n) (ih fun x hx => hl x (by simp [hx]))
    exact this _ fun x hx => List.all_eq_true.1 c7 x (hzc x hx)
  have hall : (Builtin.zeroCells z'.cells k.toNat).toList.all St.oneCell = true := List.all_eq_true.2 fun x hx => List.all_eq_true.1 c8 x (hzc x hx)
  obtain ⟨φ1, p1, p2, p3, p4, p5, p6⟩ := hr.row (w1 := w1) q2 q3 q4 q5 e (cs := (Builtin.zeroCells z'.cells k.toNat).toList) (cs' := #[] ++ Builtin.zeroCells z'.cells k.toNat ++ Builtin.zeroCells z'.cells (cap - (0 + k.toNat)))
    (fun j v hv => get_app (cs := []) (cs' := #[]) .nil hrel j v (by simpa using hv)) hall (by simp) c9
  have hszE : szOf P e = some i.size := by simp [szOf, hi]
  refine ⟨φ1, _, _, q6, p5, p6, ?_⟩
  have e0 : (⟨w.heap.size, 0, none⟩ : Addr) = ⟨(φ1.at_ σ.n).block, (φ1.at_ σ.n).off + 0, none⟩ := by rw [show φ1.at_ σ.n = _ from p2]
  rw [e0, Nat.zero_add]
  refine .slice σ.n 0 _ _ _ cap (Nat.lt_succ_self _) (by rw [show φ1.at_ σ.n = _ from p2]) (fun _ => rfl) (Nat.le_refl _) q1 (.inr ?_)
  rw [show φ1.at_ σ.n = _ from p2, show φ1.room σ.n = _ from p3, show φ1.sz σ.n = _ from p4 _ hszE]
  simp only [Array.size_append, zeroCells_size, c6]
  have e2 : k.toNat * i.size + (cap - k.toNat) * i.size = cap * i.size := by rw [← Nat.add_mul]; congr 1; omega
  simp
  omega
/-- append, of both kinds. -/
def aAppendAny (P : Program) (ts : Array TypeId) (s x : Value) (σ : St) : Option (Value × St) :=
  match s, x with
  | .slice none 0 0, .int _ k => aGrow P ts k σ
  | s, x => aAppend P ts s x σ
theorem aAppendAny_sim (hr : RH P φ σ w) {s s' x x' : Value} (hs : RV φ σ.n s s') (hx : RV φ σ.n x x') {ts : Array TypeId} {ty : TypeId} {r : Value} {σ1 : St} (h : aAppendAny P ts s x σ = some (r, σ1)) :
    ∃ φ1 w1 r', (Builtin.append_ ts ty #[s', x']).run P w = .ok r' w1 ∧ Frm φ σ w φ1 σ1 w1 ∧ RH P φ1 σ1 w1 ∧ RV φ1 σ1.n r r' := by
  unfold aAppendAny at h
  split at h
  · cases hs; cases hx; exact aGrow_sim hr h
  · exact aAppend_sim hr hs hx h
end
end Go.AM
namespace Go.AM
open Go

section
variable {P : Program} {φ : PMap} {σ : St} {w : World}

/-! ### []byte(s) -/
def aStrBytes (P : Program) (src dst : TypeId) (x : Value) (σ : St) : Option (Value × St) :=
  match P.underlying src, P.underlying dst, x with
  | some _, some (.slice e), .string s =>
    match P.underlying e with
    | some (.int .u8) => if szOf P e = some 1 ∧ soleT P e = false then some (.slice (some ⟨σ.n, 0, none⟩) s.size s.size, σ.alloc (.cells (s.data.toList.map fun b => .int .u8 b.toNat) e true)) else none
    | _ => none
  | _, _, _ => none

/-- A block's mark turns; no cell of it is frozen. -/
theorem RH.refr (hr : RH P φ σ w) {w2 : World} {h : Nat} {cs : List Value} {t : TypeId} (hg : σ.get h = some (.cells cs t true)) (hsz : w2.heap.size = w.heap.size) (e1 : w2.os = w.os) (e2 : w2.tape = w.tape) (e3 : w2.output = w.output)
    (hne : ∀ b, b ≠ (φ.at_ h).block → w2.heap[b]? = w.heap[b]?) {c : Array Value} {t' : TypeId} {fr fr' : Nat × Nat} (h0 : w.heap[(φ.at_ h).block]? = some (.cells c t' fr)) (h1 : w2.heap[(φ.at_ h).block]? = some (.cells c t' fr'))
    (hf : ∀ i, i < c.size → ¬ (fr'.1 ≤ i ∧ i < fr'.2)) : Frm φ σ w φ σ w2 ∧ RH P φ σ w2 := by
  constructor
  · exact ⟨Ext.refl _ _, Nat.le_refl _, by omega, e1, e2, e3, fun b hb hnb => hne b fun e => hnb ⟨h, _, hg, rfl, e.symm⟩, fun b hb => .inr hb, fun k x hk hx => .inl ⟨St.get_lt hk, x, hk, hx⟩⟩
  · constructor
    · intro k o hk
      by_cases e : k = h
      · subst e
        rw [hg] at hk
        injection hk with hk
        subst hk
        obtain ⟨a1, cs', t2, fr2, a2, a3, a4, a5⟩ := hr.objs _ _ hg
        rw [h0] at a2
        injection a2 with a2
        injection a2 with b1 b2 b3
        subst b1 b2 b3
        refine ⟨a1, _, _, _, h1, a3, a4, fun hw => ?_⟩
        obtain ⟨c1, c2, c3, _, c5⟩ := a5 hw
        exact ⟨c1, c2, c3, hf, c5⟩
      · by_cases hl : live o = true
        · exact (hr.objs k o hk).keep (hne _ (hr.apart h k _ o hg hk rfl hl (fun x => e x.symm)).symm)
        · cases o <;> simp_all [live, RO]
    · exact hr.apart

theorem aStrBytes_sim (hr : RH P φ σ w) {src dst : TypeId} {x x' r : Value} {σ1 : St} (hx : RV φ σ.n x x') (h : aStrBytes P src dst x σ = some (r, σ1)) :
    ∃ φ1 w1 r', (convert src dst x').run P w = .ok r' w1 ∧ Frm φ σ w φ1 σ1 w1 ∧ RH P φ1 σ1 w1 ∧ RV φ1 σ1.n r r' := by
  unfold aStrBytes at h
  split at h
  case h_2 => cases h
  rename_i d0 e s hd0 hd1
  cases hx
  split at h
  case h_2 => cases h
  rename_i hd2
  split at h
  case isFalse => cases h
  rename_i hs1
  injection h with h
  injection h with q1 q2
  subst q1 q2
  let cap := (Question.appendCap s.size 0 e).cut (w.tape w.drawn (.appendCap s.size 0 e))
  have hcap : s.size ≤ cap := by simp only [cap, Question.cut]; omega
  let cs' : Array Value := (s.data.map fun b => Value.int .u8 b.toNat) ++ Array.replicate (cap - s.size) (.int .u8 0)
  have hcsz : cs'.size = cap := by
    simp only [cs', Array.size_append, Array.size_map, Array.size_replicate]
    have : s.data.size = s.size := rfl
    omega
  let w0 : World := { w with drawn := w.drawn + 1 }
  obtain ⟨hs1, hs2⟩ := hs1
  obtain ⟨φ1, p1, p2, p3, p4, p5, p6⟩ := hr.row (w1 := w0) rfl rfl rfl rfl e (cs := s.data.toList.map fun b => .int .u8 b.toNat) (cs' := cs')
    (fun i v hv => by
      rw [List.getElem?_map] at hv
      cases hb : s.data.toList[i]? with
      | none => simp [hb] at hv
      | some b =>
        simp [hb] at hv
        subst hv
        refine ⟨_, ?_, .int _ _⟩
        have hb' : s.data[i]? = some b := by simpa using hb
        have hlt := (Array.getElem?_eq_some_iff.1 hb').1
        rw [Array.getElem?_append_left (by simpa using hlt)]
        simp [hb'])
    (by
      rw [List.all_eq_true]
      intro y hy
      rw [List.mem_map] at hy
      obtain ⟨b, _, rfl⟩ := hy
      rfl)
    (by rw [hcsz]; simpa using hcap) hs2
  let w1 : World := w0.alloc (.cells cs' e)
  let w2 : World := w1.freeze { block := w.heap.size, off := cap } 1
  have hw1 : w1.heap[w.heap.size]? = some (.cells cs' e (0, 0)) := by show (w.heap.push _)[w.heap.size]? = _; simp
  have hw2 : w2 = { w1 with heap := w1.heap.modify w.heap.size fun
      | .cells c elem (lo, hi) => .cells c elem (if lo == hi then (cap, cap + 1) else (min lo cap, max hi (cap + 1)))
      | o => o } := rfl
  have hat : (φ1.at_ σ.n).block = w.heap.size := by rw [p2]
  obtain ⟨k1, k2⟩ := p6.refr (w2 := w2) (h := σ.n) (c := cs') (t' := e) (fr := (0, 0)) (fr' := (cap, cap + 1)) (St.get_alloc_eq _ _) (by rw [hw2]; simp only [Array.size_modify]; rfl) rfl rfl rfl
    (fun b hb => by rw [hat] at hb; rw [hw2]; simp only [Array.getElem?_modify]; rw [if_neg (fun x => hb x.symm)])
    (by rw [hat]; exact hw1) (by rw [hat, hw2]; simp only [Array.getElem?_modify, if_true]; show Option.map _ (w1.heap[w.heap.size]?) = _; rw [hw1]; rfl)
    (by rw [hcsz]; intro i hi; simp only; omega)
  refine ⟨φ1, w2, .slice (some ⟨w.heap.size, 0, none⟩) s.size cap, ?_, p5.trans k1, k2, ?_⟩
  · unfold convert
    have hdd : ∀ {α : Type} (a b c2 : α), True := fun _ _ _ => trivial
    simp only [Sem.run_bind, run_und hd0, run_und hd1, Result.andThen_ok]
    have hshape : w1.shape? w.heap.size = some (e, cap) := by
      unfold World.shape?
      rw [hw1]
      simp [hcsz]
    cases d0 <;> simp only [Sem.run_bind, run_und hd2, Result.andThen_ok, Conv.stringToBytes]
    all_goals
      have hch : (choose (.appendCap s.size 0 e)).run P w = .ok cap w0 := rfl
      have hnr : (newRow e cs').run P w0 = .ok ⟨w.heap.size, 0, none⟩ w1 := rfl
      have hms : (markStringish ⟨w.heap.size, 0, none⟩).run P w1 = .ok () w2 := by
        unfold markStringish
        have e1 : (shape w.heap.size).run P w1 = .ok (some (e, cap)) w1 := by simp [shape, Sem.run, hshape]
        simp only [Sem.run_bind, e1, Result.andThen_ok]
        rfl
      rw [hch]
      simp only [Result.andThen_ok]
      rw [show (newRow e (Array.map (fun b => Value.int IntKind.u8 ↑b.toNat) s.data ++ Array.replicate (cap - s.size) (Value.int IntKind.u8 0))).run P w0 = _ from hnr]
      simp only [Result.andThen_ok, hms, Sem.run_pure]
  · have hfin := RV.slice (φ := φ1) (n := σ.n + 1) σ.n 0 (φ1.at_ σ.n).off s.size s.size cap (Nat.lt_succ_self _) (by rw [p2]) (fun _ => rfl) (Nat.le_refl _) hcap (.inr (by rw [p3, p4 1 hs1, hcsz]; omega))
    rw [p2] at hfin
    exact hfin

/-! ### unsafe.String: the head of a Builder's bytes -/
def asBytes : List Value → Option (List UInt8)
  | [] => some []
  | .int .u8 n :: l => if ((UInt8.ofNat n.toNat).toNat : Int) = n then (asBytes l).map fun r => UInt8.ofNat n.toNat :: r else none
  | _ => none
def aUnsafeString (P : Program) (ts : Array TypeId) (p n : Value) (σ : St) : Option (Value × St) :=
  match p, n, ts[0]? with
  | .pointer q, .int .i64 k, some pt =>
    if k = 0 then some (.string .empty, σ) else
    match q with
    | some a =>
      match P.underlying pt, σ.get a.block with
      | some (.pointer e), some (.cells cs t true) =>
        if e = t ∧ P.cellsOf e = 1 ∧ 0 < k ∧ k ≤ 4611686018427387904 then
          match (σ.row? a k.toNat).bind asBytes with
          | some l => some (.string ⟨l.toArray⟩, (σ.put a.block (.cells cs t false)).touch a.block)
          | none => none
        else none
      | _, _ => none
    | none => none
  | _, _, _ => none

theorem asBytes_get : ∀ {l : List Value} {r : List UInt8}, asBytes l = some r → l = r.map fun b => .int .u8 b.toNat := by
  intro l
  induction l with
  | nil => intro r h; simp [asBytes] at h; subst h; rfl
  | cons x l ih =>
    intro r h
    unfold asBytes at h
    split at h
    · simp_all
    · rename_i n l' heq
      injection heq with h1 h2
      subst h1 h2
      split at h
      case isFalse => cases h
      rename_i hn
      rw [Option.map_eq_some_iff] at h
      obtain ⟨r', h3, rfl⟩ := h
      rw [List.map_cons, ← ih h3, hn]
    · cases h

theorem liesAt_from {e : TypeId} (hc : P.cellsOf e = 1) (count off n : Nat) (hn : off + n ≤ count) : liesAt P P.depth e count off e n = true := by
  have hd : P.depth = (2 * (P.types.size + Made.depth) + 1) + 1 := rfl
  rw [hd]
  simp only [liesAt, Bool.or_eq_true]
  left
  rw [hd]
  simp [rowAt, hc, hn, sameLayout, Nat.mod_one]

theorem aUnsafeString_sim (hr : RH P φ σ w) {ts : Array TypeId} {ty : TypeId} {p n p' n' r : Value} {σ1 : St} (hp : RV φ σ.n p p') (hn : RV φ σ.n n n') (h : aUnsafeString P ts p n σ = some (r, σ1)) :
    ∃ φ1 w1 r', (Builtin.unsafeString_ ts ty #[p', n']).run P w = .ok r' w1 ∧ Frm φ σ w φ1 σ1 w1 ∧ RH P φ1 σ1 w1 ∧ RV φ1 σ1.n r r' := by
  have hmax : IntKind.i64.max = 9223372036854775807 := rfl
  unfold aUnsafeString at h
  split at h
  case h_2 => cases h
  rename_i q k pt hpt
  cases hn
  split at h
  · rename_i hk
    subst hk
    injection h with h
    injection h with e1 e2
    subst e1 e2
    obtain ⟨q', rfl⟩ : ∃ q', p' = .pointer q' := by cases hp <;> exact ⟨_, rfl⟩
    refine ⟨φ, w, .string .empty, ?_, Frm.refl _ _ _, hr, .string _⟩
    cases q' with
    | none =>
      delta Builtin.unsafeString_ Builtin.unsafeString_.match_3
      dsimp only [Array.casesOn, Array.size, List.toArray, Array.getLit]
      simp [asInt, asIntOf, hmax, hpt]
    | some a =>
      delta Builtin.unsafeString_ Builtin.unsafeString_.match_3
      dsimp only [Array.casesOn, Array.size, List.toArray, Array.getLit]
      simp [asInt, asIntOf, hmax, hpt]
  · rename_i hk
    split at h
    case h_2 => cases h
    rename_i a
    split at h
    case h_2 => cases h
    rename_i e cs t hu hg
    split at h
    case isFalse => cases h
    rename_i hcond
    obtain ⟨rfl, hce, hk0, hk1⟩ := hcond
    split at h
    case h_2 => cases h
    rename_i l hl
    injection h with h
    injection h with e1 e2
    subst e1 e2
    obtain ⟨a', rfl, ha⟩ := hp.ra
    obtain ⟨m, rfl⟩ := Int.eq_ofNat_of_zero_le (Int.le_of_lt hk0)
    have hm : (m : Int).toNat = m := Int.toNat_natCast m
    rw [hm] at hl
    rw [Option.bind_eq_some_iff] at hl
    obtain ⟨row, hrow, hby⟩ := hl
    obtain ⟨vs, r1, r2, r3⟩ := row_run hr ha hrow
    have hs : a.spot = none := by obtain ⟨_, _, _, _, rfl, _⟩ := ha; rfl
    have hlen := (row_cell hs hrow).1
    have hrowb := asBytes_get hby
    have hll : l.length = m := by rw [← hlen, hrowb]; simp
    have hvs : vs = l.map fun b => Value.int .u8 b.toNat := by
      apply List.ext_getElem?
      intro i
      cases hi : row[i]? with
      | none =>
        have h1 : m ≤ i := by rw [← hlen]; exact List.getElem?_eq_none_iff.1 hi
        rw [List.getElem?_eq_none (by omega), List.getElem?_eq_none (by simp; omega)]
      | some v =>
        obtain ⟨v', h1, h2⟩ := r1.get i hi
        rw [h1, ← hrowb, hi]
        rw [hrowb, List.getElem?_map] at hi
        cases hb : l[i]? with
        | none => simp [hb] at hi
        | some b =>
          simp [hb] at hi
          subst hi
          cases h2
          rfl
    have hcell : ∀ (j : Nat) (b : UInt8), l[j]? = some b → w.cell? (a'.add j) = some (.int .u8 b.toNat) := fun j b hb => r3 j _ (by rw [hvs, List.getElem?_map, hb]; rfl)
    have hlb := Lib.run_loadBytes (P := P) w l a' .empty hcell
    obtain ⟨h0, o, g1, g2, rfl, rfl⟩ := ha
    obtain ⟨⟨hsp, hall⟩, rc, rt, rf, hh, hc2, hsz, hw⟩ := hr.objs h0 _ hg
    obtain ⟨rfl, hroom, hlen2, hfr, _⟩ := hw rfl
    have hin : o + m ≤ cs.length := by
      unfold St.row? at hrow
      rw [show σ.get h0 = _ from hg] at hrow
      dsimp only at hrow
      split at hrow
      · assumption
      · cases hrow
    have hshape : w.shape? (φ.at_ h0).block = some (rt, rc.size) := by unfold World.shape?; rw [hh]
    have hlies := liesAt_from (P := P) hce (rc.size / P.cellsOf rt) ((φ.at_ h0).off + o) m (by rw [hce]; simp; omega)
    let w2 := w.freeze ⟨(φ.at_ h0).block, (φ.at_ h0).off + o, none⟩ m
    have hw2 : w2 = { w with heap := w.heap.modify (φ.at_ h0).block fun
        | .cells c elem (lo, hi) => .cells c elem (if lo == hi then ((φ.at_ h0).off + o, (φ.at_ h0).off + o + m) else (min lo ((φ.at_ h0).off + o), max hi ((φ.at_ h0).off + o + m)))
        | o => o } := by
      show World.freeze _ _ _ = _
      unfold World.freeze
      rw [if_neg (by omega)]
      rfl
    have hlt := (Array.getElem?_eq_some_iff.1 hh).1
    obtain ⟨p1, p2⟩ := hr.put (w1 := w2) (o1 := .cells cs rt false) hg rfl (by rw [hw2]; simp only [Array.size_modify]) (by rw [hw2]) (by rw [hw2]) (by rw [hw2])
      (fun b hb => by rw [hw2]; simp only [Array.getElem?_modify]; rw [if_neg (fun x => hb x.symm)])
      (by
        refine ⟨⟨hsp, hall⟩, rc, rt, ?_, ?_, hc2, hsz, fun h => by cases h⟩
        · exact (if rf.1 == rf.2 then ((φ.at_ h0).off + o, (φ.at_ h0).off + o + m) else (min rf.1 ((φ.at_ h0).off + o), max rf.2 ((φ.at_ h0).off + o + m)))
        · rw [hw2]
          simp only [Array.getElem?_modify, if_true, hh]
          rfl)
      hlt
    refine ⟨φ, w2, .string ⟨l.toArray⟩, ?_, p1, p2, .string _⟩
    delta Builtin.unsafeString_ Builtin.unsafeString_.match_3
    dsimp only [Array.casesOn, Array.size, List.toArray, Array.getLit]
    have hneg : ¬ (m : Int) < 0 := by omega
    have hbig : ¬ (9223372036854775807 : Int) < (m : Int) := by omega
    have hm0 : ¬ m = 0 := by omega
    rw [hll] at hlb
    have hfrz : (freeze ⟨(φ.at_ h0).block, (φ.at_ h0).off + o, none⟩ m).run P w = .ok () w2 := rfl
    have hel : (elemOf pt).run P w = .ok rt w := by simp [elemOf, run_und hu]
    have hva : (variablesAt ⟨(φ.at_ h0).block, (φ.at_ h0).off + o, none⟩ rt m).run P w = .ok true w := by
      simp [variablesAt, shape, program, Sem.run, hshape, hlies]
    simp [asInt, asIntOf, hmax, hpt, hneg, hbig, hm0, hel, hva, hlb, hfrz]
    rfl
end
end Go.AM
namespace Go.AM
open Go

section
variable {P : Program} {φ : PMap} {σ : St} {w : World}

theorem sim_len (hr : RH P φ σ w) (ts : Array TypeId) (ty : TypeId) {x x' : Value} (hx : RV φ σ.n x x') : Sim P φ σ w RVR (arun P (Builtin.len_ ts ty #[x]) σ) (Builtin.len_ ts ty #[x']) := by
  unfold Builtin.len_
  cases ht : ts[0]? with
  | none => exact sim_none
  | some t =>
    simp only [List.getElem?_toArray, List.getElem?_cons_zero]
    refine und_step fun d hd => ?_
    cases d
    case pointer e =>
      cases hx <;> (try exact sim_none)
      all_goals
        dsimp only
        refine und_step fun d2 hd2 => ?_
        cases d2 <;> first | exact sim_none | exact sim_pure (A := RVR) hr (.int _ _)
    case map kt et =>
      cases hx <;> first | exact sim_none | exact sim_pure (A := RVR) hr (.int _ _) | skip
      case map h r h1 h2 =>
        dsimp only
        refine sim_withMap hr h2 _ fun es es' cl hes => ?_
        rw [← hes.1]
        exact sim_pure (A := RVR) hr (.int _ _)
    all_goals cases hx <;> first | exact sim_none | exact sim_pure (A := RVR) hr (.int _ _)

/-- copy(d, s), s a string. -/
theorem sim_copy (hr : RH P φ σ w) (ts : Array TypeId) (ty : TypeId) {d d' : Value} (hd : RV φ σ.n d d') (b : ByteArray) : Sim P φ σ w RVR (arun P (Builtin.copy_ ts ty #[d, .string b]) σ) (Builtin.copy_ ts ty #[d', .string b]) := by
  unfold Builtin.copy_
  cases ht : ts[0]? with
  | none => exact sim_none
  | some t =>
    simp only [List.getElem?_toArray, List.getElem?_cons_zero, List.getElem?_cons_succ]
    refine und_step fun u hu => ?_
    cases u <;> first | exact sim_none | skip
    case slice elem =>
      cases hd <;> first | exact sim_none | skip
      case nilSlice =>
        simp only [Builtin.lenOf, pure_bind, Builtin.firstCells]
        refine size_step fun sz hsz => ?_
        exact sim_pure (A := RVR) hr (.int _ _)
      case slice h o o' l c c' g1 g2 g3 g4 g5 g6 =>
        simp only [Builtin.lenOf, pure_bind, Builtin.firstCells]
        refine size_step fun sz hsz => ?_
        by_cases hl : l = 0
        · subst hl
          have h0 : Nat.min b.size 0 = 0 := Nat.min_zero _
          have h1 : ((b.extract 0 0).data.map fun b => Value.int .u8 b.toNat).toList = [] := by simp
          rw [h0, h1]
          simp only [storeCells, pure_bind]
          exact sim_pure (A := RVR) hr (.int _ _)
        · refine sim_bind (sim_storeCells hr (a := ⟨h, o, none⟩) (a' := ⟨(φ.at_ h).block, o', none⟩) ⟨h, o, g1, g2, rfl, by rw [g3 (by omega)]⟩ ?_) fun φ3 σ3 w3 _ _ hf3 hr3 _ => ?_
          · simp only [Array.toList_map]
            exact RVl.map fun b _ => .int _ _
          · exact sim_pure (A := RVR) hr3 (.int _ _)

/-! ### min, max of whole numbers -/
def isInt : Value → Bool
  | .int .. => true
  | _ => false
theorem rv_ints {n : Nat} : ∀ {l l' : List Value}, RVl φ n l l' → l.all isInt = true → l' = l := by
  intro l
  induction l with
  | nil => intro l' h _; cases h; rfl
  | cons x l ih =>
    intro l' h hl
    cases h with
    | cons hx hl' =>
      simp only [List.all_cons, Bool.and_eq_true] at hl
      rw [ih hl' hl.2]
      have h1 := hl.1
      cases hx <;> first | rfl | cases h1
theorem min_int : ∀ (l : List Value) (x : Value), isInt x = true → l.all isInt = true → ∃ y, isInt y = true ∧ l.foldlM Builtin.min2 x = (pure y : Sem Value) := by
  intro l
  induction l with
  | nil => intro x hx _; exact ⟨x, hx, rfl⟩
  | cons y l ih =>
    intro x hx hl
    simp only [List.all_cons, Bool.and_eq_true] at hl
    cases x <;> simp only [isInt, Bool.false_eq_true] at hx
    cases y <;> simp only [isInt, Bool.false_eq_true] at hl <;> try exact absurd hl.1 id
    rename_i k a k' b
    obtain ⟨z, h1, h2⟩ := ih (.int k (if b < a then b else a)) rfl hl.2
    exact ⟨z, h1, by rw [List.foldlM_cons]; simp only [Builtin.min2, pure_bind]; exact h2⟩
theorem max_int : ∀ (l : List Value) (x : Value), isInt x = true → l.all isInt = true → ∃ y, isInt y = true ∧ l.foldlM Builtin.max2 x = (pure y : Sem Value) := by
  intro l
  induction l with
  | nil => intro x hx _; exact ⟨x, hx, rfl⟩
  | cons y l ih =>
    intro x hx hl
    simp only [List.all_cons, Bool.and_eq_true] at hl
    cases x <;> simp only [isInt, Bool.false_eq_true] at hx
    cases y <;> simp only [isInt, Bool.false_eq_true] at hl <;> try exact absurd hl.1 id
    rename_i k a k' b
    obtain ⟨z, h1, h2⟩ := ih (.int k (if a < b then b else a)) rfl hl.2
    exact ⟨z, h1, by rw [List.foldlM_cons]; simp only [Builtin.max2, pure_bind]; exact h2⟩
theorem clean_int {y : Value} (h : isInt y = true) : cleanV y = true := by cases y <;> first | rfl | cases h
theorem sim_minmax (hr : RH P φ σ w) (ts : Array TypeId) (ty : TypeId) {a a' : Array Value} (ha : RVl φ σ.n a.toList a'.toList) (hi : a.toList.all isInt = true) :
    Sim P φ σ w RVR (arun P (Builtin.min_ ts ty a) σ) (Builtin.min_ ts ty a') ∧ Sim P φ σ w RVR (arun P (Builtin.max_ ts ty a) σ) (Builtin.max_ ts ty a') := by
  obtain rfl : a' = a := by
    apply Array.ext'
    exact rv_ints ha hi
  unfold Builtin.min_ Builtin.max_
  cases hl : a'.toList with
  | nil => exact ⟨sim_none, sim_none⟩
  | cons x l =>
    rw [hl, List.all_cons, Bool.and_eq_true] at hi
    obtain ⟨y, h1, h2⟩ := min_int l x hi.1 hi.2
    obtain ⟨z, h3, h4⟩ := max_int l x hi.1 hi.2
    dsimp only
    rw [h2, h4]
    exact ⟨sim_pure (A := RVR) hr (rv_clean (clean_int h1) _ _), sim_pure (A := RVR) hr (rv_clean (clean_int h3) _ _)⟩

/-! ### a range over a string -/
theorem sim_range (hr : RH P φ σ w) (t : TypeId) (s : ByteArray) : Sim P φ σ w RVR (arun P (Instr.range t (.string s)) σ) (Instr.range t (.string s)) := by
  unfold Instr.range
  refine und_step fun d hd => ?_
  cases d <;> first | exact sim_none | skip
  simp only [pure_bind]
  refine sim_bind (sim_newObj hr (o := .stringIter s 0) (o' := .stringIter s 0) ⟨rfl, rfl⟩) fun φ1 σ1 w1 h r hf hr1 ⟨h1, h2⟩ => ?_
  have e : RV φ1 σ1.n (.pointer (some ⟨h, 0, none⟩)) (.pointer (some ⟨(φ1.at_ h).block, (φ1.at_ h).off + 0, none⟩)) := .ptr h 0 h1 (by rw [h2])
  rw [h2] at e
  exact sim_pure (A := RVR) hr1 e
theorem sim_next (hr : RH P φ σ w) (ty : TypeId) {x x' : Value} (hx : RV φ σ.n x x') : Sim P φ σ w RVR (arun P (Instr.next x true ty) σ) (Instr.next x' true ty) := by
  intro r σ9 h9
  unfold Instr.next at h9
  dsimp only at h9
  split at h9
  case h_2 => cases h9
  rename_i h sp
  rw [arun_bind, Option.bind_eq_some_iff] at h9
  obtain ⟨⟨ob, σ2⟩, hob, h9⟩ := h9
  simp only [getObj, arun] at hob
  cases hg : σ.get h with
  | none => simp [hg] at hob
  | some o =>
    have ho := hr.objs h o hg
    cases o <;> simp [hg, asObj?] at hob
    case map es cl =>
      obtain ⟨rfl, rfl⟩ := hob
      cases h9
    case iter s pos =>
      obtain ⟨rfl, rfl⟩ := hob
      cases hx with
      | ptr _ _ g1 g2 =>
      obtain ⟨rr, k1, k2⟩ := ho
      have hx' : Instr.next (.pointer (some ⟨(φ.at_ h).block, (φ.at_ h).off + 0, none⟩)) true ty = (do
          match ← getObj rr, true with
          | .stringIter s pos, true =>
            if pos < s.size then
              let (c, width) := Utf8.decode s pos
              setObj rr (.stringIter s (pos + width))
              pure (.tuple #[.bool true, goInt pos, .int .i32 c])
            else pure (.tuple #[.bool false])
          | _, _ => stuck "") ∨ True := .inr trivial
      dsimp only at h9
      by_cases hp : pos < s.size
      · rw [if_pos hp] at h9
        obtain ⟨φ1, w1, b, r1, r2, r3, r4⟩ := (sim_bind (sim_setObj hr k1 (o := .stringIter s (pos + (Utf8.decode s pos).2)) (o' := .stringIter s (pos + (Utf8.decode s pos).2)) ⟨rfl, rfl⟩)
          (f := fun _ => (pure (.tuple #[.bool true, goInt pos, .int .i32 (Utf8.decode s pos).1]) : Sem Value)) (g := fun _ => (pure (.tuple #[.bool true, goInt pos, .int .i32 (Utf8.decode s pos).1]) : Sem Value)) (B := RVR)
          fun φ1 σ1 w1 _ _ _ hr1 _ => sim_pure (A := RVR) hr1 (.tuple (.cons (.bool _) (.cons (.int _ _) (.cons (.int _ _) .nil))))) r σ9 h9
        refine ⟨φ1, w1, b, ?_, r2, r3, r4⟩
        rw [← r1, k1]
        unfold Instr.next
        have e : (getObj rr).run P w = .ok (.stringIter s pos) w := by simp [getObj, Sem.run, k2]
        simp only [Nat.add_zero, Sem.run_bind, e, Result.andThen_ok, if_pos hp]
      · rw [if_neg hp] at h9
        injection h9 with h9
        injection h9 with q1 q2
        subst q1 q2
        refine ⟨φ, w, _, ?_, Frm.refl _ _ _, hr, .tuple (.cons (.bool _) .nil)⟩
        rw [k1]
        unfold Instr.next
        have e : (getObj rr).run P w = .ok (.stringIter s pos) w := by simp [getObj, Sem.run, k2]
        simp only [Nat.add_zero, Sem.run_bind, e, Result.andThen_ok, if_neg hp, Sem.run_pure]
end
end Go.AM
namespace Go.AM
open Go

/-! One operation of the abstract machine. -/
inductive ANext where
  | value (v : Value)
  | skip
  | enter (f : FuncId) (args : Array Value)
  | panic (v : Value)

def opndOk : Operand → Bool
  | .tmp _ | .func _ => true
  | .const v => cleanV v
  | .global _ => false
def elemChk (P : Program) (t : TypeId) : Bool := match P.underlying t with | some (.slice e) => zchk P e | _ => true
def mapChk (P : Program) (t : TypeId) : Bool := match P.underlying t with | some (.map _ e) => zchk P e | _ => true

/-- The function that a method's name means at a dynamic type, by the shortest road. -/
def methodOf (P : Program) (t : TypeId) (name : String) : Option FuncId :=
  match P.info? t with
  | some i =>
    match i.methods.find? (·.name == name) with
    | some m =>
      if m.path.isEmpty then
        match m.func, P.underlying t with
        | some (f, true), some (.pointer _) => some f
        | some (_, _), some (.pointer _) => none
        | some (f, false), some _ => some f
        | _, _ => none
      else none
    | none => none
  | none => none

def vmap (x : Option (Value × St)) : Option (ANext × St) := x.map fun r => (.value r.1, r.2)
def umap (x : Option (Unit × St)) : Option (ANext × St) := x.map fun r => (.skip, r.2)
def bodied (P : Program) (f : FuncId) : Bool := match P.funcs[f]? with | some fn => fn.body.isSome | none => false

/-- What the model's own entries give for two functions without a body. -/
def aextern (P : Program) (g : FuncId) (args : List Value) (σ : St) : Option (Value × St) := match P.funcs[g]? with
  | some fn => if fn.body.isNone && (fn.origin == "" || fn.origin == fn.name) then match args with
      | [.string s, .int .u8 c] => if fn.name == "internal/bytealg.IndexByteString" then arun P (Extern.BytealgIndexByte.indexByte #[.string s, .int .u8 c]) σ
          else if fn.name == "internal/bytealg.CountString" then arun P (Extern.BytealgCount.count #[.string s, .int .u8 c]) σ else none
      | _ => none
    else none
  | none => none

def acallee (P : Program) (ρ : Operand → Value) (c : Call) (ty : TypeId) (σ : St) : Option (ANext × St) :=
  match c.callee with
  | .value f => match ρ f with
    | .func (.func g) first captured => if bodied P g then some (.enter g (first ++ c.args.map ρ ++ captured), σ) else vmap (aextern P g (first ++ c.args.map ρ ++ captured).toList σ)
    | _ => none
  | .invoke r name => match ρ r with
    | .iface t v => match methodOf P t name with
      | some g => if bodied P g then some (.enter g (#[v] ++ c.args.map ρ), σ) else none
      | none => none
    | _ => none
  | .builtin b => match b, (c.args.map ρ).toList with
    | .len, [x] => vmap (arun P (Builtin.len_ c.argTypes ty #[x]) σ)
    | .append, [s, x] => vmap (aAppendAny P c.argTypes s x σ)
    | .copy, [d, .string b] => vmap (arun P (Builtin.copy_ c.argTypes ty #[d, .string b]) σ)
    | .min, l => if l.all isInt then vmap (arun P (Builtin.min_ c.argTypes ty l.toArray) σ) else none
    | .max, l => if l.all isInt then vmap (arun P (Builtin.max_ c.argTypes ty l.toArray) σ) else none
    | .unsafeString, [p, n] => vmap (aUnsafeString P c.argTypes p n σ)
    | .unsafeSliceData, [.slice none 0 0] => some (.value (.pointer none), σ)
    | .cap, [.slice none 0 0] => vmap (arun P (Builtin.cap_ c.argTypes ty #[.slice none 0 0]) σ)
    | .unsafeSliceData, [.slice (some a) _ k] => if k ≠ 0 then some (.value (.pointer (some a)), σ) else none
    | _, _ => none

/-- Two nil interface values are compared. -/
def aNil (P : Program) (op : BinOp) (t : TypeId) (xo yo : Operand) : Value → Value → St → Option (ANext × St)
  | .nilIface, .nilIface, σ => if eqOp op then vmap (arun P (do eqGuard op t xo yo .nilIface .nilIface; binOp op t .nilIface .nilIface) σ) else none
  | _, _, _ => none
def aop (P : Program) (ρ : Operand → Value) (o : Oper) (σ : St) : Option (ANext × St) :=
  match o.op with
  | .move x | .assign x => some (.value (ρ x), σ)
  | .pick c a b => match ρ c with
    | .bool t => some (.value (if t then ρ a else ρ b), σ)
    | _ => none
  | .alloc t => if zchk P t then vmap (arun P (Instr.alloc t true (.tuple #[])) σ) else none
  | .box t x => vmap (arun P (Instr.box t (ρ x)) σ)
  | .build t ps => if zchk P t then vmap (arun P (Instr.build t (ps.map fun (i, x) => (i, ρ x))) σ) else none
  | .buildSlice t n ps => if elemChk P t then vmap (arun P (Instr.buildSlice t n (ps.map fun (i, x) => (i, ρ x))) σ) else none
  | .load t a => vmap (arun P (Instr.loadAt t (ρ a)) σ)
  | .store t a x => umap (arun P (Instr.storeAt t (ρ a) (ρ x)) σ)
  | .nilCheck x => match ρ x with
    | .pointer (some a) => some (.value (.pointer (some a)), σ)
    | .func (.func f) a c => some (.value (.func (.func f) a c), σ)
    | .iface t v => some (.value (.iface t v), σ)
    | _ => none
  | .binOp op t x y _ => if binOk op (ρ x) (ρ y) && guardOk P t (ρ x) (ρ y) then vmap (arun P (do eqGuard op t x y (ρ x) (ρ y); binOp op t (ρ x) (ρ y)) σ) else aNil P op t x y (ρ x) (ρ y) σ
  | .unOp op _ x => if unOk (ρ x) then vmap (arun P (Op.unary op (ρ x)) σ) else none
  | .convert src dst x => if convOk P src dst (ρ x) then vmap (arun P (convert src dst (ρ x)) σ) else vmap (aStrBytes P src dst (ρ x) σ)
  | .makeInterface t x => vmap (arun P (Instr.makeInterface t (ρ x)) σ)
  | .makeFunc fn a c => some (.value (.func fn (a.map ρ) (c.map ρ)), σ)
  | .makeMap t none => vmap (arun P (Instr.makeMap t none) σ)
  | .makeSlice t l c => if elemChk P t then vmap (arun P (Instr.makeSlice t (ρ l) (ρ c)) σ) else none
  | .slice t x lo hi none => if sliceOk P σ t (ρ x) then vmap (arun P (Instr.sliceAt t (ρ x) (lo.map ρ) (hi.map ρ) none) σ) else none
  | .fieldAddr t x k => vmap (arun P (Instr.fieldAt t (ρ x) k) σ)
  | .field t x k => vmap (arun P (Instr.field t (ρ x) k) σ)
  | .indexAddr t x i => vmap (arun P (Instr.indexAt t (ρ x) (ρ i)) σ)
  | .index t x i => vmap (arun P (Instr.index t (ρ x) (ρ i)) σ)
  | .lookup t x i ok => if keyOk (ρ i) && mapChk P t then vmap (arun P (Instr.lookup t (ρ x) (ρ i) ok) σ) else none
  | .mapUpdate t m k x | .insert t m k x => if keyOk (ρ k) then umap (arun P (Instr.mapUpdate t (ρ m) (ρ k) (ρ x)) σ) else none
  | .mapEntry t m k => if keyOk (ρ k) && mapChk P t then vmap (arun P (Instr.mapEntry t (ρ m) (ρ k)) σ) else none
  | .entryStore t m s x => umap (arun P (Instr.entryStore t (ρ m) (ρ s) (ρ x)) σ)
  | .range t x => match ρ x with
    | .string s => vmap (arun P (Instr.range t (.string s)) σ)
    | _ => none
  | .next it true => vmap (arun P (Instr.next (ρ it) true o.type) σ)
  | .typeAssert x xt t ok => if zchk P t then vmap (arun P (Instr.typeAssert (ρ x) xt t ok) σ) else none
  | .extract t i => vmap (arun P (Instr.extract (ρ t) i) σ)
  | .call c => acallee P ρ c o.type σ
  | .panic x => match ρ x with
    | .iface t v => some (.panic (.iface t v), σ)
    | _ => none
  | _ => none

theorem quiet_cap (ts : Array TypeId) (ty : TypeId) : Quiet (Builtin.cap_ ts ty #[.slice none 0 0]) := by
  unfold Builtin.cap_
  cases ts[0]? with
  | none => trivial
  | some t =>
    simp only [List.getElem?_toArray, List.getElem?_cons_zero]
    refine quiet_bind (quiet_underlying t) fun d => ?_
    cases d <;> first | trivial | skip
    dsimp only
    refine quiet_bind (quiet_underlying _) fun d2 => ?_
    cases d2 <;> trivial
theorem cap_clean {P : Program} {σ σ1 : St} (ts : Array TypeId) (ty : TypeId) {v : Value} (h : arun P (Builtin.cap_ ts ty #[.slice none 0 0]) σ = some (v, σ1)) : cleanV v = true := by
  unfold Builtin.cap_ at h
  cases ht : ts[0]? with
  | none => rw [ht] at h; cases h
  | some t =>
    rw [ht] at h
    simp only [List.getElem?_toArray, List.getElem?_cons_zero] at h
    rw [arun_bind, Option.bind_eq_some_iff] at h
    obtain ⟨⟨d, s⟩, h1, h2⟩ := h
    cases d <;> first | (cases h2; done) | (injection h2 with h2; injection h2 with h2 h3; subst h2; rfl) | skip
    dsimp only at h2
    rw [arun_bind, Option.bind_eq_some_iff] at h2
    obtain ⟨⟨d2, s2⟩, h3, h4⟩ := h2
    cases d2 <;> first | (cases h4; done) | (injection h4 with h4; injection h4 with h4 h5; subst h4; rfl)

/-- How the real operation ends, against the abstract one. -/
def ROp (P : Program) (φ : PMap) (σ : St) (w : World) (s : Sem Next) (r : ANext) (σ1 : St) : Prop :=
  match r with
  | .value v => ∃ φ1 w1 v', s.run P w = .ok (.value v') w1 ∧ Frm φ σ w φ1 σ1 w1 ∧ RH P φ1 σ1 w1 ∧ RV φ1 σ1.n v v'
  | .skip => ∃ φ1 w1, s.run P w = .ok .skip w1 ∧ Frm φ σ w φ1 σ1 w1 ∧ RH P φ1 σ1 w1
  | .enter f args => ∃ args', s.run P w = .ok (.enter f args') w ∧ σ1 = σ ∧ RVl φ σ.n args.toList args'.toList
  | .panic v => ∃ v', s.run P w = .halt (.panic v') w ∧ σ1 = σ ∧ RV φ σ.n v v'

section
variable {P : Program} {φ : PMap} {σ : St} {w : World}

theorem rop_v {x : Option (Value × St)} {s' : Sem Value} (h : Sim P φ σ w RVR x s') {r : ANext} {σ1 : St} (hx : vmap x = some (r, σ1)) : ROp P φ σ w (do pure (.value (← s'))) r σ1 := by
  unfold vmap at hx
  rw [Option.map_eq_some_iff] at hx
  obtain ⟨⟨v, σ2⟩, h1, h2⟩ := hx
  injection h2 with h2 h3
  subst h2 h3
  obtain ⟨φ1, w1, b, h4, h5, h6, h7⟩ := h v σ2 h1
  exact ⟨φ1, w1, b, by rw [Sem.run_bind, h4]; rfl, h5, h6, h7⟩
theorem rop_u {x : Option (Unit × St)} {s' : Sem Unit} (h : Sim P φ σ w EqR x s') {r : ANext} {σ1 : St} (hx : umap x = some (r, σ1)) : ROp P φ σ w (do s'; pure .skip) r σ1 := by
  unfold umap at hx
  rw [Option.map_eq_some_iff] at hx
  obtain ⟨⟨v, σ2⟩, h1, h2⟩ := hx
  injection h2 with h2 h3
  subst h2 h3
  obtain ⟨φ1, w1, b, h4, h5, h6, h7⟩ := h v σ2 h1
  exact ⟨φ1, w1, by rw [Sem.run_bind, h4]; rfl, h5, h6⟩
theorem rop_x {x : Option (Value × St)} {s' : Sem Value} (h : ∀ r σ1, x = some (r, σ1) → ∃ φ1 w1 r', s'.run P w = .ok r' w1 ∧ Frm φ σ w φ1 σ1 w1 ∧ RH P φ1 σ1 w1 ∧ RV φ1 σ1.n r r') {r : ANext} {σ1 : St} (hx : vmap x = some (r, σ1)) :
    ROp P φ σ w (do pure (.value (← s'))) r σ1 := rop_v (fun a σ2 h2 => h a σ2 h2) hx

theorem rvl_map {n : Nat} {ρ ρ' : Operand → Value} (a : Array Operand) (h : ∀ x, x ∈ a.toList → RV φ n (ρ x) (ρ' x)) : RVl φ n (a.map ρ).toList (a.map ρ').toList := by
  simp only [Array.toList_map]
  exact RVl.map h
theorem ropt_map {n : Nat} {ρ ρ' : Operand → Value} (a : Option Operand) (h : ∀ x, a = some x → RV φ n (ρ x) (ρ' x)) : ROpt φ n (a.map ρ) (a.map ρ') := by
  cases a with
  | none => exact .inl ⟨rfl, rfl⟩
  | some x => exact .inr ⟨_, _, rfl, rfl, h x rfl⟩
theorem elemChk_at {t : TypeId} (h : elemChk P t = true) : ∀ e, P.underlying t = some (.slice e) → zchk P e = true := fun e he => by simpa [elemChk, he] using h
theorem mapChk_at {t : TypeId} (h : mapChk P t = true) : ∀ k e, P.underlying t = some (.map k e) → zchk P e = true := fun k e he => by simpa [mapChk, he] using h

/-- No function has the one name that the call asks for. -/
def namesOk (P : Program) : Prop := ∀ (f : FuncId) (fn : Func), P.funcs[f]? = some fn → (fn.name == "runtime.NumGoroutine") = false
theorem run_callFunc (hn : namesOk P) {f : FuncId} {args : Array Value} (hb : bodied P f = true) : (callFunc f args).run P w = .ok (.enter f args) w := by
  unfold bodied at hb
  split at hb
  · rename_i fn hf
    have h1 := hn f fn hf
    have h2 : fn.body.isNone = false := by cases h : fn.body <;> simp_all
    have h3 : ¬ fn.name = "runtime.NumGoroutine" := by simpa using h1
    have h4 : ¬ fn.body = none := by intro h; rw [h] at h2; cases h2
    simp [callFunc, program, Sem.run, hf, h3, h4]
  · cases hb
theorem run_method {t : TypeId} {v : Value} {name : String} {g : FuncId} (h : methodOf P t name = some g) : (method (P.types.size + Made.depth) t v name).run P w = .ok (g, v) w := by
  have e : P.types.size + Made.depth = (P.types.size + 99) + 1 := rfl
  rw [e]
  unfold methodOf at h
  split at h
  case h_2 => cases h
  rename_i i hi
  split at h
  case h_2 => cases h
  rename_i m hm
  split at h
  case isFalse => cases h
  rename_i hp
  have hp' : m.path.toList = [] := by simpa using hp
  unfold method
  simp only [Sem.run_bind, run_info hi, Result.andThen_ok, hm, hp', follow, Sem.run_pure]
  split at h
  · rename_i f e1 hf hu
    injection h with h
    subst h
    simp only [hf, receiverAt, Sem.run_bind, run_und hu, Result.andThen_ok, Place.get, Sem.run_pure]
  · cases h
  · rename_i f d hnp hf hu
    injection h with h
    subst h
    simp only [hf, receiverAt, Sem.run_bind, run_und hu, Result.andThen_ok]
    cases d <;> first | (exact absurd hu (hnp _)) | (simp only [Place.get, Sem.run_pure, Result.andThen_ok])
  · cases h

theorem find_ib {fn : Func} (h : fn.name = "internal/bytealg.IndexByteString") : Extern.find fn = some Extern.BytealgIndexByte.indexByte := by
  have h1 : Extern.allGenericRows.lookup "internal/bytealg.IndexByteString" = none := by kernel_rfl
  have h2 : Extern.allTypedRows.lookup "internal/bytealg.IndexByteString" = none := by kernel_rfl
  have h3 : Extern.allRows.lookup "internal/bytealg.IndexByteString" = some Extern.BytealgIndexByte.indexByte := by kernel_rfl
  simp only [Extern.find, h, h1, h2, h3, Option.map_none]
  rfl
theorem find_ct {fn : Func} (h : fn.name = "internal/bytealg.CountString") : Extern.find fn = some Extern.BytealgCount.count := by
  have h1 : Extern.allGenericRows.lookup "internal/bytealg.CountString" = none := by kernel_rfl
  have h2 : Extern.allTypedRows.lookup "internal/bytealg.CountString" = none := by kernel_rfl
  have h3 : Extern.allRows.lookup "internal/bytealg.CountString" = some Extern.BytealgCount.count := by kernel_rfl
  simp only [Extern.find, h, h1, h2, h3, Option.map_none]
  rfl
theorem next_ib {fn : Func} (h : fn.name = "internal/bytealg.IndexByteString") (h0 : fn.origin = "" ∨ fn.origin = fn.name) : Extern.findNext fn = none := by
  have h1 : Extern.allNextRows.lookup "internal/bytealg.IndexByteString" = none := by kernel_rfl
  have h2 : Extern.allNextRows.lookup "" = none := by kernel_rfl
  rcases h0 with h0 | h0 <;> simp only [Extern.findNext, h, h0, h1, h2, Option.map_none] <;> rfl
theorem next_ct {fn : Func} (h : fn.name = "internal/bytealg.CountString") (h0 : fn.origin = "" ∨ fn.origin = fn.name) : Extern.findNext fn = none := by
  have h1 : Extern.allNextRows.lookup "internal/bytealg.CountString" = none := by kernel_rfl
  have h2 : Extern.allNextRows.lookup "" = none := by kernel_rfl
  rcases h0 with h0 | h0 <;> simp only [Extern.findNext, h, h0, h1, h2, Option.map_none] <;> rfl
theorem run_extern (hn : namesOk P) {f : FuncId} {fn : Func} {args : Array Value} {e : Array Value → Sem Value} (hf : P.funcs[f]? = some fn) (hb : fn.body.isNone = true) (h1 : Extern.findNext fn = none) (h2 : Extern.find fn = some e) :
    (callFunc f args).run P w = ((do pure (.value (← e args)) : Sem Next)).run P w := by
  have h3 : ¬ fn.name = "runtime.NumGoroutine" := by simpa using hn f fn hf
  have h4 : fn.body = none := by simpa using hb
  simp [callFunc, program, Sem.run, hf, h3, h4, h1, h2, mark]
theorem quiet_ib (s : ByteArray) (c : Int) : Quiet (Extern.BytealgIndexByte.indexByte #[.string s, .int .u8 c]) := by
  unfold Extern.BytealgIndexByte.indexByte
  refine quiet_bind ?_ fun b => quiet_bind ?_ fun d => ?_
  · unfold Extern.Bytes.bytesOf
    trivial
  · unfold Extern.Bytes.asByte
    trivial
  · split <;> trivial
theorem quiet_ct (s : ByteArray) (c : Int) : Quiet (Extern.BytealgCount.count #[.string s, .int .u8 c]) := by
  unfold Extern.BytealgCount.count
  refine quiet_bind ?_ fun b => quiet_bind ?_ fun d => ?_
  · unfold Extern.Bytes.bytesOf
    trivial
  · unfold Extern.Bytes.asByte
    trivial
  · trivial
theorem aextern_sim (hn : namesOk P) (hr : RH P φ σ w) {g : FuncId} {args args' : Array Value} (ha : RVl φ σ.n args.toList args'.toList) {r : ANext} {σ1 : St} (h : vmap (aextern P g args.toList σ) = some (r, σ1)) :
    ROp P φ σ w (callFunc g args') r σ1 := by
  unfold aextern at h
  split at h
  case h_2 => cases h
  rename_i fn hf
  split at h
  case isFalse => cases h
  rename_i hb
  rw [Bool.and_eq_true, Bool.or_eq_true] at hb
  obtain ⟨hb, h0⟩ := hb
  have h0' : fn.origin = "" ∨ fn.origin = fn.name := by simpa using h0
  split at h
  case h_2 => cases h
  rename_i s c hl
  rw [hl] at ha
  have e : args' = #[.string s, .int .u8 c] := by
    generalize hl' : args'.toList = l' at ha
    cases ha with | cons h1 h2 => cases h2 with | cons h2 h3 => cases h3; cases h1; cases h2; exact (Array.ext' hl')
  subst e
  have go : ∀ {e : Array Value → Sem Value}, Extern.findNext fn = none → Extern.find fn = some e → Quiet (e #[.string s, .int .u8 c]) → (∀ v σ1, arun P (e #[.string s, .int .u8 c]) σ = some (v, σ1) → cleanV v = true) →
      vmap (arun P (e #[.string s, .int .u8 c]) σ) = some (r, σ1) → ROp P φ σ w (callFunc g #[.string s, .int .u8 c]) r σ1 := by
    intro e h1 h2 hq hc hx
    have := rop_v (sim_quietV hr hq hc) hx
    have er := run_extern (w := w) hn (args := #[.string s, .int .u8 c]) hf hb h1 h2
    cases r with
    | value v => obtain ⟨φ1, w1, v', g1, g2⟩ := this; exact ⟨φ1, w1, v', er.trans g1, g2⟩
    | skip => obtain ⟨φ1, w1, g1, g2⟩ := this; exact ⟨φ1, w1, er.trans g1, g2⟩
    | enter f args => obtain ⟨a', g1, g2⟩ := this; exact ⟨a', er.trans g1, g2⟩
    | panic v => obtain ⟨a', g1, g2⟩ := this; exact ⟨a', er.trans g1, g2⟩
  split at h
  · rename_i hname
    have hname : fn.name = "internal/bytealg.IndexByteString" := by simpa using hname
    refine go (next_ib hname h0') (find_ib hname) (quiet_ib s c) (fun v σ1 hv => ?_) h
    revert hv
    show arun P (match (List.range s.size).find? fun i => s[i]! == c.toNat.toUInt8 with | some i => pure (goInt i) | none => pure (goInt (-1))) σ = some (v, σ1) → _
    split <;> intro hv <;> cases hv <;> rfl
  · split at h
    · rename_i hname
      have hname : fn.name = "internal/bytealg.CountString" := by simpa using hname
      refine go (next_ct hname h0') (find_ct hname) (quiet_ct s c) (fun v σ1 hv => ?_) h
      cases hv
      rfl
    · cases h
end
end Go.AM
namespace Go.AM
open Go

section
variable {P : Program} {φ : PMap} {σ : St} {w : World}

theorem rv_func {n : Nat} {f : Fn} {a c : Array Value} {v : Value} (h : RV φ n (.func f a c) v) : ∃ a' c', v = .func f a' c' ∧ RVl φ n a.toList a'.toList ∧ RVl φ n c.toList c'.toList := by
  cases h with | func _ h1 h2 => exact ⟨_, _, rfl, h1, h2⟩
theorem rv_iface {n : Nat} {t : TypeId} {x v : Value} (h : RV φ n (.iface t x) v) : ∃ x', v = .iface t x' ∧ RV φ n x x' := by
  cases h with | iface _ h1 => exact ⟨_, rfl, h1⟩
theorem rv_bool {n : Nat} {b : Bool} {v : Value} (h : RV φ n (.bool b) v) : v = .bool b := by cases h; rfl
theorem rv_str {n : Nat} {b : ByteArray} {v : Value} (h : RV φ n (.string b) v) : v = .string b := by cases h; rfl
theorem rv_ptr {n : Nat} {a : Addr} {v : Value} (h : RV φ n (.pointer (some a)) v) : ∃ a', v = .pointer (some a') := by cases h; exact ⟨_, rfl⟩
theorem rvl1 {n : Nat} {x : Value} {l : List Value} (h : RVl φ n [x] l) : ∃ x', l = [x'] ∧ RV φ n x x' := by
  cases h with | cons h h2 => cases h2; exact ⟨_, rfl, h⟩
theorem rvl2 {n : Nat} {x y : Value} {l : List Value} (h : RVl φ n [x, y] l) : ∃ x' y', l = [x', y'] ∧ RV φ n x x' ∧ RV φ n y y' := by
  cases h with | cons h h2 =>
    obtain ⟨y', rfl, hy⟩ := rvl1 h2
    exact ⟨_, _, rfl, h, hy⟩
theorem arr_of {a : Array Value} {l : List Value} (h : a.toList = l) : a = l.toArray := by
  apply Array.ext'
  simpa using h
theorem arr1 {a : Array Value} {x : Value} (h : a.toList = [x]) : a = #[x] := arr_of h
theorem arr2 {a : Array Value} {x y : Value} (h : a.toList = [x, y]) : a = #[x, y] := arr_of h

theorem call_sim (hn : namesOk P) (hr : RH P φ σ w) {ρ ρ' : Operand → Value} {c : Call} {ty : TypeId} (hρ : ∀ x, x ∈ c.operands → RV φ σ.n (ρ x) (ρ' x)) {r : ANext} {σ1 : St} (h : acallee P ρ c ty σ = some (r, σ1)) :
    ROp P φ σ w (do let d ← resolve ρ' c ty; invoke d.target d.args) r σ1 := by
  obtain ⟨cal, as, ats⟩ := c
  have ha : RVl φ σ.n (as.map ρ).toList (as.map ρ').toList := rvl_map _ fun x hx => hρ x (by simp only [Call.operands]; exact Array.mem_append.2 (.inr (Array.mem_toList_iff.1 hx)))
  unfold acallee at h
  unfold resolve
  cases cal with
  | value f =>
    have hf : RV φ σ.n (ρ f) (ρ' f) := hρ f (by simp [Call.operands])
    simp only at h ⊢
    split at h
    · rename_i g first cap hfe
      rw [hfe] at hf
      obtain ⟨first', cap', he, h1, h2⟩ := rv_func hf
      rw [he]
      split at h
      · rename_i hb
        injection h with h
        injection h with h3 h4
        subst h3 h4
        refine ⟨first' ++ as.map ρ' ++ cap', ?_, rfl, ?_⟩
        · simp only [Deferred.ofValue, invoke, Sem.run_bind, Sem.run_pure, Result.andThen_ok]
          exact run_callFunc hn hb
        · simp only [Array.toList_append]
          exact (h1.append ha).append h2
      · simp only [Deferred.ofValue, pure_bind, invoke]
        exact aextern_sim hn hr (by simp only [Array.toList_append]; exact (h1.append ha).append h2) h
    · cases h
  | invoke rv name =>
    have hf : RV φ σ.n (ρ rv) (ρ' rv) := hρ rv (by simp [Call.operands])
    simp only at h ⊢
    split at h
    · rename_i t v hfe
      rw [hfe] at hf
      obtain ⟨v', he, hv⟩ := rv_iface hf
      rw [he]
      split at h
      · rename_i g hm
        split at h
        · rename_i hb
          injection h with h
          injection h with h3 h4
          subst h3 h4
          refine ⟨#[v'] ++ as.map ρ', ?_, rfl, ?_⟩
          · simp only [invoke, Sem.run_bind, Sem.run_pure, Result.andThen_ok]
            have e : (#[Value.iface t v'] ++ as.map ρ')[0]? = some (Value.iface t v') := by
              rw [← Array.getElem?_toList, Array.toList_append]
              rfl
            have e2 : (#[Value.iface t v'] ++ as.map ρ').extract 1 (#[Value.iface t v'] ++ as.map ρ').size = as.map ρ' := by
              apply Array.ext'
              simp [List.take_of_length_le]
            simp only [e, e2, callMethod, Sem.run_bind, program, Sem.run, Result.andThen_ok]
            have := run_method (P := P) (w := w) (v := v') hm
            rw [this]
            exact run_callFunc hn hb
          · simp only [Array.toList_append]
            exact (RVl.cons hv .nil).append ha
        · cases h
      · cases h
    · cases h
  | builtin b =>
    simp only at h ⊢
    generalize (as.map fun x => match x with | .const _ => true | _ => false) = cs
    generalize ea : as.map ρ = A at h ha
    generalize as.map ρ' = A' at ha
    simp only [pure_bind, invoke]
    split at h
    · rename_i x hl
      rw [hl] at ha
      obtain ⟨x', hx', hx⟩ := rvl1 ha
      rw [arr1 hx']
      exact rop_v (sim_len hr ats ty hx) h
    · rename_i s x hl
      rw [hl] at ha
      obtain ⟨s', x', hx', hs, hx⟩ := rvl2 ha
      rw [arr2 hx']
      exact rop_x (fun r σ1 h => aAppendAny_sim hr hs hx h) h
    · rename_i d b hl
      rw [hl] at ha
      obtain ⟨s', x', hx', hs, hx⟩ := rvl2 ha
      cases hx
      rw [arr2 hx']
      exact rop_v (sim_copy hr ats ty hs b) h
    · split at h
      · rename_i hi
        exact rop_v (sim_minmax hr ats ty (a := A.toList.toArray) (by simpa using ha) (by simpa using hi)).1 h
      · cases h
    · split at h
      · rename_i hi
        exact rop_v (sim_minmax hr ats ty (a := A.toList.toArray) (by simpa using ha) (by simpa using hi)).2 h
      · cases h
    · rename_i p n hl
      rw [hl] at ha
      obtain ⟨s', x', hx', hs, hx⟩ := rvl2 ha
      rw [arr2 hx']
      exact rop_x (fun r σ1 h => aUnsafeString_sim hr hs hx h) h
    · rename_i hl
      rw [hl] at ha
      obtain ⟨x', hx', hx⟩ := rvl1 ha
      rw [arr1 hx']
      injection h with h
      injection h with h1 h2
      subst h1 h2
      cases hx
      exact ⟨φ, w, .pointer none, rfl, .refl _ _ _, hr, .nilPtr⟩
    · rename_i hl
      rw [hl] at ha
      obtain ⟨x', hx', hx⟩ := rvl1 ha
      rw [arr1 hx']
      cases hx
      exact rop_v (sim_quietV hr (quiet_cap ats ty) fun v σ1 hv => cap_clean ats ty hv) h
    · rename_i a z k hl
      rw [hl] at ha
      obtain ⟨x', hx', hx⟩ := rvl1 ha
      rw [arr1 hx']
      split at h
      · rename_i hk
        injection h with h
        injection h with h1 h2
        subst h1 h2
        cases hx with
        | slice hh o o' l c c' hn' hs ho hl hc hrm =>
          have hk0 : 0 < k := by omega
          have := ho hk0
          subst this
          refine ⟨φ, w, .pointer (some ⟨(φ.at_ hh).block, (φ.at_ hh).off + o, none⟩), ?_, .refl _ _ _, hr, .ptr _ _ hn' hs⟩
          have hc0 : c' ≠ 0 := by omega
          show ((if c' ≠ 0 then (pure (.pointer (some ⟨(φ.at_ hh).block, (φ.at_ hh).off + o, none⟩)) : Sem Value) else _) >>= _).run P w = _
          rw [if_pos hc0]
          rfl
      · cases h
    · cases h

theorem quiet_ite {α : Type} {c : Prop} [Decidable c] {a b : Sem α} (ha : Quiet a) (hb : Quiet b) : Quiet (if c then a else b) := by split <;> assumption
theorem quiet_nil (op : BinOp) (t : TypeId) (xo yo : Operand) (h : eqOp op = true) : Quiet (do eqGuard op t xo yo .nilIface .nilIface; binOp op t .nilIface .nilIface) := by
  have hg : Quiet (eqGuard op t xo yo .nilIface .nilIface) := by
    unfold eqGuard
    cases op <;> simp only [eqOp, Bool.false_eq_true] at h
    all_goals
      dsimp only
      refine quiet_ite trivial (quiet_ite trivial (quiet_bind ?_ fun b => quiet_ite trivial trivial))
      generalize Op.maxDepth = n
      cases n with
      | zero => trivial
      | succ n =>
        unfold Op.eqGuardIn
        refine quiet_bind (quiet_underlying t) fun d => ?_
        split <;> first | trivial | (rename_i h1 h2; cases h1; done) | (rename_i h1 _; cases h1; done)
  refine quiet_bind hg fun _ => ?_
  have he : Quiet (Op.equal t .nilIface .nilIface) := by
    unfold Op.equal
    generalize Op.maxDepth = n
    cases n with
    | zero => trivial
    | succ n =>
      unfold Op.equalIn
      refine quiet_bind (quiet_underlying t) fun d => ?_
      split <;> first | trivial | (rename_i h1 h2; cases h1; done) | (rename_i h1 h2; cases h2; done) | (rename_i h1; cases h1; done)
  cases op <;> simp only [eqOp, Bool.false_eq_true] at h
  · exact quiet_bind he fun _ => trivial
  · exact quiet_bind he fun _ => trivial
theorem clean_nil (op : BinOp) (t : TypeId) (xo yo : Operand) (h : eqOp op = true) {v : Value} {σ1 : St} (hv : arun P (do eqGuard op t xo yo .nilIface .nilIface; binOp op t .nilIface .nilIface) σ = some (v, σ1)) : cleanV v = true := by
  rw [arun_bind, Option.bind_eq_some_iff] at hv
  obtain ⟨⟨_, σ2⟩, _, hv⟩ := hv
  cases op <;> simp only [eqOp, Bool.false_eq_true] at h
  all_goals
    simp only [binOp] at hv
    rw [arun_bind, Option.bind_eq_some_iff] at hv
    obtain ⟨⟨b, σ3⟩, _, hv⟩ := hv
    cases hv
    rfl
theorem aNil_sim (hr : RH P φ σ w) {op : BinOp} {t : TypeId} {xo yo : Operand} {x y x' y' : Value} (hx : RV φ σ.n x x') (hy : RV φ σ.n y y') {r : ANext} {σ1 : St} (h : aNil P op t xo yo x y σ = some (r, σ1)) :
    ROp P φ σ w (do pure (.value (← (do eqGuard op t xo yo x' y'; binOp op t x' y')))) r σ1 := by
  unfold aNil at h
  split at h
  · cases hx
    cases hy
    split at h
    · rename_i ho
      exact rop_v (sim_quietV hr (quiet_nil op t xo yo ho) fun v σ1 hv => clean_nil op t xo yo ho hv) h
    · cases h
  · cases h
theorem und1 {t : TypeId} (hz : elemChk P t = true) : ∀ e, P.underlying t = some (.slice e) → zchk P e = true := elemChk_at hz

theorem aop_sim (hn : namesOk P) (hr : RH P φ σ w) {ρ ρ' : Operand → Value} {o : Oper} (hρ : ∀ x, x ∈ o.op.operands → RV φ σ.n (ρ x) (ρ' x)) {r : ANext} {σ1 : St} (h : aop P ρ o σ = some (r, σ1)) :
    ROp P φ σ w (execOp ρ' o) r σ1 := by
  obtain ⟨dst, op, ty, pos, aft, gd⟩ := o
  unfold aop at h
  unfold execOp
  have keep : ∀ {x : Operand}, x ∈ op.operands → some (ANext.value (ρ x), σ) = some (r, σ1) → ROp P φ σ w (pure (.value (ρ' x))) r σ1 := by
    intro x hx h
    injection h with h
    injection h with h1 h2
    subst h1 h2
    exact ⟨φ, w, _, rfl, .refl _ _ _, hr, hρ x hx⟩
  have hb : ∀ {x : Operand}, x ∈ op.operands → RV φ σ.n (ρ x) (ρ' x) := fun hx => hρ _ hx
  cases op <;> simp only at h ⊢ <;> try (cases h; done)
  case move x => exact keep (by simp [Op.operands]) h
  case assign x => exact keep (by simp [Op.operands]) h
  case pick c a b =>
    split at h
    · rename_i t hc
      have hc' := hb (x := c) (by simp [Op.operands])
      rw [hc] at hc'
      have e : ρ' c = .bool t := rv_bool hc'
      rw [e]
      cases t
      · exact keep (x := b) (by simp [Op.operands]) h
      · exact keep (x := a) (by simp [Op.operands]) h
    · cases h
  case alloc t =>
    split at h
    · rename_i hz
      exact rop_v (sim_alloc hr hz) h
    · cases h
  case box t x => exact rop_v (sim_box hr t (hb (by simp [Op.operands]))) h
  case build t ps =>
    split at h
    · rename_i hz
      exact rop_v (sim_build hr hz (rparts_of ps fun p hp => hb (by simpa [Op.operands] using ⟨p.1, Array.mem_toList_iff.1 hp⟩))) h
    · cases h
  case buildSlice t n ps =>
    split at h
    · rename_i hz
      exact rop_v (sim_buildSlice hr (elemChk_at hz) n (rparts_of ps fun p hp => hb (by simpa [Op.operands] using ⟨p.1, Array.mem_toList_iff.1 hp⟩))) h
    · cases h
  case load t a => exact rop_v (sim_loadAt hr t (hb (by simp [Op.operands]))) h
  case store t a x => exact rop_u (sim_storeAt hr t (hb (by simp [Op.operands])) (hb (by simp [Op.operands]))) h
  case nilCheck x =>
    have hx := hb (x := x) (by simp [Op.operands])
    split at h
    · rename_i a hc
      rw [hc] at hx
      obtain ⟨a', h2⟩ := rv_ptr hx
      injection h with h
      injection h with h3 h4
      subst h3 h4
      rw [h2] at hx ⊢
      exact ⟨φ, w, _, rfl, .refl _ _ _, hr, hx⟩
    · rename_i f a c hc
      rw [hc] at hx
      obtain ⟨a', c', e, _, _⟩ := rv_func hx
      injection h with h
      injection h with h3 h4
      subst h3 h4
      rw [e] at hx ⊢
      exact ⟨φ, w, _, rfl, .refl _ _ _, hr, hx⟩
    · rename_i t v hc
      rw [hc] at hx
      obtain ⟨v', e, _⟩ := rv_iface hx
      injection h with h
      injection h with h3 h4
      subst h3 h4
      rw [e] at hx ⊢
      exact ⟨φ, w, _, rfl, .refl _ _ _, hr, hx⟩
    · cases h
  case binOp op t x y t' =>
    split at h
    · rename_i hz
      rw [Bool.and_eq_true] at hz
      exact rop_v (sim_binOp hr op t x y (hb (by simp [Op.operands])) (hb (by simp [Op.operands])) hz.1 hz.2) h
    · exact aNil_sim hr (hb (x := x) (by simp [Op.operands])) (hb (x := y) (by simp [Op.operands])) h
  case unOp op t x =>
    split at h
    · rename_i hz
      exact rop_v (sim_unary hr op (hb (by simp [Op.operands])) hz) h
    · cases h
  case convert src dst x =>
    split at h
    · rename_i hz
      exact rop_v (sim_convert hr src dst (hb (by simp [Op.operands])) hz) h
    · exact rop_x (fun r σ1 h => aStrBytes_sim hr (hb (by simp [Op.operands])) h) h
  case makeInterface t x => exact rop_v (sim_makeInterface hr t (hb (by simp [Op.operands]))) h
  case makeFunc f a c =>
    injection h with h
    injection h with h3 h4
    subst h3 h4
    refine ⟨φ, w, .func f (a.map ρ') (c.map ρ'), rfl, .refl _ _ _, hr, .func f (rvl_map _ fun x hx => hb ?_) (rvl_map _ fun x hx => hb ?_)⟩
    · simp only [Op.operands]
      exact Array.mem_append.2 (.inl (Array.mem_toList_iff.1 hx))
    · simp only [Op.operands]
      exact Array.mem_append.2 (.inr (Array.mem_toList_iff.1 hx))
  case makeMap t n =>
    cases n with
    | none => exact rop_v (sim_makeMap hr t) h
    | some n => cases h
  case makeSlice t l c =>
    split at h
    · rename_i hz
      exact rop_v (sim_makeSlice hr (elemChk_at hz) (hb (by simp [Op.operands])) (hb (by simp [Op.operands]))) h
    · cases h
  case slice t x lo hi mx =>
    cases mx with
    | some m => cases h
    | none =>
      simp only at h
      split at h
      · rename_i hz
        refine rop_v (sim_sliceAt hr t (hb (by simp [Op.operands])) hz (ropt_map lo fun y hy => hb ?_) (ropt_map hi fun y hy => hb ?_)) h
        · subst hy; simp [Op.operands]
        · subst hy; simp [Op.operands]
      · cases h
  case fieldAddr t x k => exact rop_v (sim_fieldAt hr t k (hb (by simp [Op.operands]))) h
  case field t x k => exact rop_v (sim_field hr t k (hb (by simp [Op.operands]))) h
  case indexAddr t x i => exact rop_v (sim_indexAt hr t (hb (by simp [Op.operands])) (hb (by simp [Op.operands]))) h
  case index t x i => exact rop_v (sim_index hr t (hb (by simp [Op.operands])) (hb (by simp [Op.operands]))) h
  case lookup t x i ok =>
    split at h
    · rename_i hz
      rw [Bool.and_eq_true] at hz
      exact rop_v (sim_lookup hr t (mapChk_at hz.2) ok (hb (by simp [Op.operands])) (hb (by simp [Op.operands])) hz.1) h
    · cases h
  case mapUpdate t m k x =>
    split at h
    · rename_i hz
      exact rop_u (sim_mapUpdate hr t (hb (by simp [Op.operands])) (hb (by simp [Op.operands])) hz (hb (by simp [Op.operands]))) h
    · cases h
  case insert t m k x =>
    split at h
    · rename_i hz
      exact rop_u (sim_mapUpdate hr t (hb (by simp [Op.operands])) (hb (by simp [Op.operands])) hz (hb (by simp [Op.operands]))) h
    · cases h
  case mapEntry t m k =>
    split at h
    · rename_i hz
      rw [Bool.and_eq_true] at hz
      exact rop_v (sim_mapEntry hr t (mapChk_at hz.2) (hb (by simp [Op.operands])) (hb (by simp [Op.operands])) hz.1) h
    · cases h
  case entryStore t m s x => exact rop_u (sim_entryStore hr t (hb (by simp [Op.operands])) (hb (by simp [Op.operands])) (hb (by simp [Op.operands]))) h
  case range t x =>
    have hx := hb (x := x) (by simp [Op.operands])
    split at h
    · rename_i s hc
      rw [hc] at hx
      have e : ρ' x = .string s := rv_str hx
      rw [e]
      exact rop_v (sim_range hr t s) h
    · cases h
  case next it b =>
    cases b
    · cases h
    · exact rop_v (sim_next hr ty (hb (by simp [Op.operands]))) h
  case typeAssert x xt t ok =>
    split at h
    · rename_i hz
      exact rop_v (sim_assert hr xt hz ok (hb (by simp [Op.operands]))) h
    · cases h
  case extract t i => exact rop_v (sim_extract hr i (hb (by simp [Op.operands]))) h
  case call c => exact call_sim hn hr (fun x hx => hb hx) h
  case panic x =>
    have hx := hb (x := x) (by simp [Op.operands])
    split at h
    · rename_i t v hc
      rw [hc] at hx
      obtain ⟨v', e, h1⟩ := rv_iface hx
      injection h with h
      injection h with h3 h4
      subst h3 h4
      rw [e] at hx ⊢
      exact ⟨.iface t v', rfl, rfl, hx⟩
    · cases h
end
end Go.AM

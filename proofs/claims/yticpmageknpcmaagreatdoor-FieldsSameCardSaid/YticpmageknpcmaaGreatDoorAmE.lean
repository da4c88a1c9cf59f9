/- A part of the proof that FieldsSame, called with any two lists of tags (the laid tables as the text lays them), returns true and leaves its arguments as they were. Here: lowered code, which the kernel runs. -/
import Derived.Test.YticpmageknpcmaaGreatDoorAmD
set_option linter.unusedVariables false
set_option linter.unusedSimpArgs false
namespace Go.AM
open Go

/-! Arithmetic that the kernel reckons quickly. -/
def keq : IntKind → IntKind → Bool
  | .i8, .i8 | .i16, .i16 | .i32, .i32 | .i64, .i64 | .u8, .u8 | .u16, .u16 | .u32, .u32 | .u64, .u64 => true
  | _, _ => false
theorem keq_eq {k k' : IntKind} (h : keq k k' = true) : k = k' := by cases k <;> cases k' <;> first | rfl | cases h
@[simp] theorem keq_self (k : IntKind) : keq k k = true := by cases k <;> rfl
def kmax : IntKind → Nat
  | .i8 => 127 | .i16 => 32767 | .i32 => 2147483647 | .i64 => 9223372036854775807
  | .u8 => 255 | .u16 => 65535 | .u32 => 4294967295 | .u64 => 18446744073709551615
def kneg : IntKind → Nat
  | .i8 => 128 | .i16 => 32768 | .i32 => 2147483648 | .i64 => 9223372036854775808
  | _ => 0
def kin (k : IntKind) : Int → Bool
  | .ofNat m => Nat.ble m (kmax k)
  | .negSucc m => Nat.blt m (kneg k)
def fwrap (k : IntKind) (n : Int) : Int := bif kin k n then n else k.wrap n
theorem kin_iff (k : IntKind) (n : Int) : kin k n = true ↔ -(kneg k : Int) ≤ n ∧ n ≤ kmax k := by
  cases n with
  | ofNat m =>
    simp only [kin, Nat.ble_eq, Int.ofNat_eq_natCast]
    omega
  | negSucc m =>
    have : Nat.blt m (kneg k) = true ↔ m < kneg k := by unfold Nat.blt; rw [Nat.ble_eq]; omega
    simp only [kin, this]
    omega
theorem wrap_in (k : IntKind) (n : Int) (h : kin k n = true) : k.wrap n = n := by
  rw [kin_iff] at h
  cases k <;> simp only [kmax, kneg] at h <;> simp only [IntKind.wrap, IntKind.bits, IntKind.signed, Bool.true_and, Bool.false_and, Nat.reduceSub, Int.reducePow, ge_iff_le, decide_eq_true_eq, Bool.false_eq_true, if_false] <;> (try split) <;> omega
@[simp] theorem fwrap_eq (k : IntKind) (n : Int) : fwrap k n = k.wrap n := by
  unfold fwrap
  cases h : kin k n with
  | true => rw [cond_true, wrap_in k n h]
  | false => rfl
def filt : Int → Int → Bool
  | .ofNat a, .ofNat b => Nat.blt a b
  | .ofNat _, .negSucc _ => false
  | .negSucc _, .ofNat _ => true
  | .negSucc a, .negSucc b => Nat.blt b a
theorem blt_iff (a b : Nat) : Nat.blt a b = true ↔ a < b := by unfold Nat.blt; rw [Nat.ble_eq]; omega
@[simp] theorem filt_eq (a b : Int) : filt a b = decide (a < b) := by
  rw [Bool.eq_iff_iff, decide_eq_true_iff]
  cases a <;> cases b <;> simp only [filt, blt_iff, Int.ofNat_eq_natCast] <;> first | omega | (constructor <;> intro h <;> first | omega | (cases h; done) | rfl | trivial)
def fieq : Int → Int → Bool
  | .ofNat a, .ofNat b => Nat.beq a b
  | .negSucc a, .negSucc b => Nat.beq a b
  | _, _ => false
@[simp] theorem fieq_eq (a b : Int) : fieq a b = decide (a = b) := by
  rw [Bool.eq_iff_iff, decide_eq_true_iff]
  cases a <;> cases b <;> simp only [fieq, Nat.beq_eq, Int.ofNat_eq_natCast] <;> first | omega | (constructor <;> intro h <;> first | omega | (cases h; done) | rfl | trivial)
/-- An index that is met. -/
def fidx : Int → Nat → Option Nat
  | .ofNat m, n => bif Nat.blt m n then some m else none
  | .negSucc _, _ => none
theorem fidx_some {j : Int} {n i : Nat} (h : fidx j n = some i) : 0 ≤ j ∧ j < n ∧ j.toNat = i := by
  cases j with
  | ofNat m =>
    simp only [fidx] at h
    cases hb : Nat.blt m n with
    | false => rw [hb] at h; cases h
    | true =>
      rw [hb, cond_true] at h
      injection h with h
      have := (blt_iff m n).1 hb
      subst h
      exact ⟨by simp, by simpa using this, by simp⟩
  | negSucc m => cases h
theorem fidx_of {j : Int} {n : Nat} (h0 : 0 ≤ j) (h1 : j < n) : fidx j n = some j.toNat := by
  cases j with
  | ofNat m =>
    have : Nat.blt m n = true := (blt_iff m n).2 (by simpa using h1)
    simp only [fidx, this, cond_true]
    rfl
  | negSucc m => omega
@[simp] theorem fidx_nat {i n : Nat} (h : i < n) : fidx (i : Int) n = some i := fidx_of (by omega) (by omega)
def fleq : List UInt8 → List UInt8 → Bool
  | [], [] => true
  | a :: l, b :: r => Nat.beq a.toNat b.toNat && fleq l r
  | _, _ => false
@[simp] theorem fleq_eq (a b : List UInt8) : fleq a b = decide (a = b) := by
  rw [Bool.eq_iff_iff, decide_eq_true_iff]
  induction a generalizing b with
  | nil => cases b <;> simp [fleq]
  | cons x a ih =>
    cases b with
    | nil => simp [fleq]
    | cons y b => simp [fleq, ih, UInt8.toNat_inj]

/-! Operations on bits. -/
def two (n : Nat) : Int := ((2 ^ n : Nat) : Int)
theorem two_eq (n : Nat) : two n = 2 ^ n := by simp [two]
def nonneg (k : IntKind) : Int → Option Nat
  | .ofNat m => bif Nat.ble m (kmax k) then some m else none
  | .negSucc _ => none
theorem nonneg_some {k : IntKind} {a : Int} {m : Nat} (h : nonneg k a = some m) : a = m ∧ m ≤ kmax k := by
  cases a with
  | ofNat x =>
    simp only [nonneg] at h
    cases hb : Nat.ble x (kmax k) with
    | false => rw [hb] at h; cases h
    | true => rw [hb, cond_true] at h; injection h with h; subst h; exact ⟨rfl, Nat.le_of_ble_eq_true hb⟩
  | negSucc x => cases h
def sbits (k : IntKind) : Nat := if k.signed then k.bits - 1 else k.bits
theorem kmax_bits (k : IntKind) : kmax k = 2 ^ sbits k - 1 := by cases k <;> rfl
theorem sbits_le (k : IntKind) : sbits k ≤ k.bits := by cases k <;> decide
theorem ofInt_nat (w m : Nat) (h : m < 2 ^ w) : (BitVec.ofInt w (m : Int)).toNat = m := by
  rw [BitVec.toNat_ofInt]
  have : ((m : Int) % ((2 ^ w : Nat) : Int)) = m := by
    rw [← Int.natCast_emod, Nat.mod_eq_of_lt h]
  rw [this]
  simp
theorem pow_sbits (k : IntKind) : 2 ^ sbits k ≤ 2 ^ k.bits := Nat.pow_le_pow_right (by decide) (sbits_le k)
theorem wrap_nat (k : IntKind) (m : Nat) (h : m < 2 ^ sbits k) : k.wrap (m : Int) = m := wrap_in k m (by
  rw [kin_iff]
  have := kmax_bits k
  omega)
theorem lt_sbits {k : IntKind} {m : Nat} (h : m ≤ kmax k) : m < 2 ^ sbits k := by
  have := kmax_bits k
  have : 0 < 2 ^ sbits k := Nat.two_pow_pos _
  omega
def fland (k : IntKind) (a b : Int) : Int := match nonneg k a, nonneg k b with
  | some x, some y => ((Nat.land x y : Nat) : Int)
  | _, _ => k.wrap (BitVec.ofInt k.bits a &&& BitVec.ofInt k.bits b).toNat
def flor (k : IntKind) (a b : Int) : Int := match nonneg k a, nonneg k b with
  | some x, some y => ((Nat.lor x y : Nat) : Int)
  | _, _ => k.wrap (BitVec.ofInt k.bits a ||| BitVec.ofInt k.bits b).toNat
def flxor (k : IntKind) (a b : Int) : Int := match nonneg k a, nonneg k b with
  | some x, some y => ((Nat.xor x y : Nat) : Int)
  | _, _ => k.wrap (BitVec.ofInt k.bits a ^^^ BitVec.ofInt k.bits b).toNat
theorem fland_eq (k : IntKind) (a b : Int) : fland k a b = k.wrap (BitVec.ofInt k.bits a &&& BitVec.ofInt k.bits b).toNat := by
  unfold fland
  split
  · rename_i x y h1 h2
    obtain ⟨rfl, h3⟩ := nonneg_some h1
    obtain ⟨rfl, h4⟩ := nonneg_some h2
    have g1 := lt_sbits h3
    have g2 := lt_sbits h4
    have := pow_sbits k
    rw [BitVec.toNat_and, ofInt_nat _ _ (by omega), ofInt_nat _ _ (by omega)]
    exact (wrap_nat k _ (Nat.and_lt_two_pow _ g2)).symm
  · rfl
theorem flor_eq (k : IntKind) (a b : Int) : flor k a b = k.wrap (BitVec.ofInt k.bits a ||| BitVec.ofInt k.bits b).toNat := by
  unfold flor
  split
  · rename_i x y h1 h2
    obtain ⟨rfl, h3⟩ := nonneg_some h1
    obtain ⟨rfl, h4⟩ := nonneg_some h2
    have g1 := lt_sbits h3
    have g2 := lt_sbits h4
    have := pow_sbits k
    rw [BitVec.toNat_or, ofInt_nat _ _ (by omega), ofInt_nat _ _ (by omega)]
    exact (wrap_nat k _ (Nat.or_lt_two_pow g1 g2)).symm
  · rfl
theorem flxor_eq (k : IntKind) (a b : Int) : flxor k a b = k.wrap (BitVec.ofInt k.bits a ^^^ BitVec.ofInt k.bits b).toNat := by
  unfold flxor
  split
  · rename_i x y h1 h2
    obtain ⟨rfl, h3⟩ := nonneg_some h1
    obtain ⟨rfl, h4⟩ := nonneg_some h2
    have g1 := lt_sbits h3
    have g2 := lt_sbits h4
    have := pow_sbits k
    rw [BitVec.toNat_xor, ofInt_nat _ _ (by omega), ofInt_nat _ _ (by omega)]
    exact (wrap_nat k _ (Nat.xor_lt_two_pow g1 g2)).symm
  · rfl
/-- A shift to the right. -/
def fshr (a : Int) (n : Nat) : Int := match a with
  | .ofNat m => ((m / 2 ^ n : Nat) : Int)
  | .negSucc m => (Int.negSucc m).fdiv (2 ^ n)
theorem fshr_eq (a : Int) (n : Nat) : fshr a n = a.fdiv (2 ^ n) := by
  cases a with
  | ofNat m =>
    simp only [fshr]
    rw [← two_eq, two, Int.ofNat_eq_natCast, Int.ofNat_fdiv]
  | negSucc m => rfl
end Go.AM
namespace Go.AM
open Go

/-! The lowered machine: operations with their types resolved, values on a list, no numbers of temporaries. -/

inductive Src where
  | r (i : Nat)
  | c (v : Value)

def rget : List Value → Nat → Value
  | [], _ => undef
  | v :: _, 0 => v
  | _ :: l, n + 1 => rget l n
def Src.ev (ρ : List Value) : Src → Value
  | .r i => rget ρ i
  | .c v => v

inductive FOp where
  | mv (x : Src)
  | pick (c a b : Src)
  | new (t : TypeId) (z : List Value)
  | box (t : TypeId) (x : Src)
  | ld (x : Src)
  | lda (n : Nat) (x : Src)
  | st (n : Nat) (x v : Src)
  | fad (off : Nat) (x : Src)
  | fld (off : Nat) (x : Src)
  | flda (off n : Nat) (x : Src)
  | iad (sz : Nat) (x i : Src)
  | iada (len sz : Nat) (x i : Src)
  | ixs (x i : Src)
  | bin (op : BinOp) (x y : Src)
  | bbin (neg : Bool) (x y : Src)
  | sbin (neg : Bool) (ks : List Nat) (x y : Src)
  | nt (x : Src)
  | cvi (k : IntKind) (x : Src)
  | cvs (x : Src)
  | sls (x : Src) (lo hi : Option Src)
  | sll (sz : Nat) (e : TypeId) (x : Src) (lo hi : Option Src)
  | ext (x : Src) (i : Nat)
  | lenS (x : Src)
  | lenL (x : Src)
  | mki (t : TypeId) (x : Src)
  | nilc (x : Src)
  | call (f : FuncId) (as : List Src)
  | raw (u : Bool) (op : Op) (ty : TypeId) (m : List (Tmp × Src))

inductive FI where
  | op (push : Bool) (g : Option (Src × Bool)) (o : FOp)
  | chk (g : Option (Src × Bool)) (o : FOp) (r : Src)
  | shuf (l : List Src)

inductive FRes where
  | v (s : Src)
  | c (s : Src)
  | a (n : Nat) (s : Src)

inductive FC where
  | ops (l : List FI)
  | seq (a b : FC)
  | cond (s : Src) (a b : FC)
  | block (id : Nat) (b : FC)
  | loop (b : FC)
  | exit (id : Nat) (l : List Src)
  | ret (l : List FRes)
  | stuck
  deriving Inhabited

inductive FO where
  | nx (ρ : List Value)
  | ex (id : Nat) (ρ : List Value)
  | ret (v : Value)
  | pan (v : Value)

abbrev AOut := Option (AEnd × St)
def fv (v : Value) (σ : St) : AOut := some (.ret v, σ)

/-- Strings by their bytes. -/
abbrev bs (l : List UInt8) : ByteArray := ⟨⟨l⟩⟩

def fshn (k : IntKind) (b : Int) : Option Nat := match b with
  | .ofNat m => some (min m k.bits)
  | .negSucc _ => none
def fint (op : BinOp) (k k' : IntKind) (a b : Int) : Option Value := match op with
  | .shl => (fshn k b).map fun n => .int k (fwrap k (a * two n))
  | .shr => (fshn k b).map fun n => .int k (fshr a n)
  | .add => bif keq k k' then some (.int k (fwrap k (a + b))) else none
  | .sub => bif keq k k' then some (.int k (fwrap k (a - b))) else none
  | .mul => bif keq k k' then some (.int k (fwrap k (a * b))) else none
  | .quo => bif keq k k' && !fieq b 0 then some (.int k (fwrap k (a.tdiv b))) else none
  | .rem => bif keq k k' && !fieq b 0 then some (.int k (a.tmod b)) else none
  | .and => bif keq k k' then some (.int k (fland k a b)) else none
  | .or => bif keq k k' then some (.int k (flor k a b)) else none
  | .xor => bif keq k k' then some (.int k (flxor k a b)) else none
  | .andNot => bif keq k k' then some (.int k (k.wrap (BitVec.ofInt k.bits a &&& ~~~(BitVec.ofInt k.bits b)).toNat)) else none
  | .eql => bif keq k k' then some (.bool (fieq a b)) else none
  | .neq => bif keq k k' then some (.bool (!fieq a b)) else none
  | .lss => bif keq k k' then some (.bool (filt a b)) else none
  | .leq => bif keq k k' then some (.bool (!filt b a)) else none
  | .gtr => bif keq k k' then some (.bool (filt b a)) else none
  | .geq => bif keq k k' then some (.bool (!filt a b)) else none
def fstr (op : BinOp) (a b : List UInt8) : Option Value := match op with
  | .add => if a.length + b.length ≤ 9223372036854775807 then some (.string (bs (a ++ b))) else none
  | .eql => some (.bool (fleq a b))
  | .neq => some (.bool (!fleq a b))
  | _ => none
/-- Are two cells the same, of a kind each? -/
def leafEq : Nat → Value → Value → Option Bool
  | 0, .int k a, .int k' b => bif keq k k' then some (fieq a b) else none
  | 1, .string a, .string b => some (fleq a.data.toList b.data.toList)
  | 2, .bool a, .bool b => some (a == b)
  | _, _, _ => none
def cellsEq : List Nat → List Value → List Value → Option Bool
  | [], _, _ => some true
  | k :: ks, x :: xs, y :: ys => match leafEq k x y with
    | some true => cellsEq ks xs ys
    | r => r
  | _, _, _ => none
def fbin (op : BinOp) : Value → Value → Option Value
  | .int k a, .int k' b => fint op k k' a b
  | .string a, .string b => fstr op a.data.toList b.data.toList
  | _, _ => none

def fbound (x : Option Value) (d : Nat) : Option Nat := match x with
  | none => some d
  | some (.int _ (.ofNat i)) => some i
  | some _ => none

def sllOk (σ : St) (e : TypeId) : Option Addr → Bool
  | some b => match σ.get b.block with
    | some (.cells _ e' _) => e' == e
    | _ => false
  | none => true

/-- Cells are stored one by one. -/
def stc (σ : St) (a : Addr) : List Value → Nat → Option St
  | [], _ => some σ
  | v :: r, i => match σ.setCell? (a.add i) v with
    | some σ1 => stc σ1 a r (i + 1)
    | none => none

/-- The same in one go. -/
def stAll (σ : St) (a : Addr) (vs : List Value) : Option St :=
  match vs with
  | [] => some σ
  | [v] => σ.setCell? a v
  | vs => match σ.get a.block, a.spot with
    | some (.cells cs t true), none =>
      if a.off + vs.length ≤ cs.length then (if vs.all St.oneCell then some ((σ.put a.block (.cells (cs.take a.off ++ (vs ++ cs.drop (a.off + vs.length))) t true)).touch a.block) else none) else none
    | _, _ => none

def fraw (call : ACall) : Option (ANext × St) → AOut
  | some (.value v, σ) => some (.ret v, σ)
  | some (.skip, σ) => some (.ret undef, σ)
  | some (.enter f args, σ) => call f args.toList σ
  | some (.panic v, σ) => some (.panic v, σ)
  | none => none

def rawEnv (gl : Nat → Option Nat) (m : List (Tmp × Src)) (ρ : List Value) : Operand → Value
  | .tmp t => match m.lookup t with | some s => s.ev ρ | none => undef
  | .const v => v
  | .global g => match gl g with | some h => .pointer (some ⟨h, 0, none⟩) | none => undef
  | .func f => .func (.func f) #[] #[]

def fop (P : Program) (gl : Nat → Option Nat) (call : ACall) (ρ : List Value) (σ : St) : FOp → AOut
  | .mv x => fv (x.ev ρ) σ
  | .pick c a b => match c.ev ρ with
    | .bool t => fv (if t then a.ev ρ else b.ev ρ) σ
    | _ => none
  | .new t z => some (.ret (.pointer (some ⟨σ.n, 0, none⟩)), σ.alloc (.cells z t true))
  | .box t x => if (x.ev ρ).cells.toList.all St.oneCell then some (.ret (.pointer (some ⟨σ.n, 0, none⟩)), σ.alloc (.cells (x.ev ρ).cells.toList t true)) else none
  | .ld x => match x.ev ρ with
    | .pointer (some a) => (σ.cell? a).map fun v => (.ret v, σ)
    | _ => none
  | .lda n x => match x.ev ρ with
    | .pointer (some ⟨b, o, none⟩) => (σ.row? ⟨b, o, none⟩ n).map fun l => (.ret (.agg l.toArray), σ)
    | _ => none
  | .st n x v => match x.ev ρ with
    | .pointer (some a) => if (v.ev ρ).cells.size = n then (stAll σ a (v.ev ρ).cells.toList).map fun σ1 => (.ret undef, σ1) else none
    | _ => none
  | .fad off x => match x.ev ρ with
    | .pointer (some a) => fv (.pointer (some (a.add off))) σ
    | _ => none
  | .fld off x => match x.ev ρ with
    | .agg cs => (cs.toList[off]?).map fun v => (.ret v, σ)
    | _ => none
  | .flda off n x => match x.ev ρ with
    | .agg cs => fv (.agg ((cs.toList.drop off).take n).toArray) σ
    | _ => none
  | .iad sz x i => match x.ev ρ, i.ev ρ with
    | .slice (some a) len _, .int _ j => (fidx j len).map fun i => (.ret (.pointer (some (a.add (i * sz)))), σ)
    | _, _ => none
  | .iada len sz x i => match x.ev ρ, i.ev ρ with
    | .pointer (some a), .int _ j => (fidx j len).map fun i => (.ret (.pointer (some (a.add (i * sz)))), σ)
    | _, _ => none
  | .ixs x i => match x.ev ρ, i.ev ρ with
    | .string s, .int _ (.ofNat j) => (s.data.toList[j]?).map fun b => (.ret (.int .u8 b.toNat), σ)
    | _, _ => none
  | .bin op x y => (fbin op (x.ev ρ) (y.ev ρ)).map fun v => (.ret v, σ)
  | .bbin neg x y => match x.ev ρ, y.ev ρ with
    | .bool a, .bool b => fv (.bool (if neg then !(a == b) else a == b)) σ
    | _, _ => none
  | .sbin neg ks x y => match x.ev ρ, y.ev ρ with
    | .agg xs, .agg ys => (cellsEq ks xs.toList ys.toList).map fun b => (.ret (.bool (if neg then !b else b)), σ)
    | _, _ => none
  | .nt x => match x.ev ρ with
    | .bool b => fv (.bool !b) σ
    | _ => none
  | .cvi k x => match x.ev ρ with
    | .int _ n => fv (.int k (fwrap k n)) σ
    | _ => none
  | .cvs x => match x.ev ρ with
    | .string s => fv (.string s) σ
    | _ => none
  | .sls x lo hi => match x.ev ρ with
    | .string s => match fbound (hi.map (·.ev ρ)) s.data.toList.length, fbound (lo.map (·.ev ρ)) 0 with
      | some h, some l => if h ≤ s.data.toList.length ∧ l ≤ h then fv (.string (bs ((s.data.toList.drop l).take (h - l)))) σ else none
      | _, _ => none
    | _ => none
  | .sll sz e x lo hi => match x.ev ρ with
    | .slice a len cap => match fbound (hi.map (·.ev ρ)) len, fbound (lo.map (·.ev ρ)) 0 with
      | some h, some l =>
        if h ≤ cap ∧ l ≤ h then
          if sllOk σ e a then
            fv (.slice (if cap = l then a else a.map (·.add (l * sz))) (h - l) (cap - l)) σ
          else none
        else none
      | _, _ => none
    | _ => none
  | .ext x i => match x.ev ρ with
    | .tuple vs => (vs.toList[i]?).map fun v => (.ret v, σ)
    | _ => none
  | .lenS x => match x.ev ρ with
    | .string s => fv (.int .i64 s.data.toList.length) σ
    | _ => none
  | .lenL x => match x.ev ρ with
    | .slice _ n _ => fv (.int .i64 n) σ
    | _ => none
  | .mki t x => fv (.iface t (x.ev ρ)) σ
  | .nilc x => match x.ev ρ with
    | .pointer (some a) => fv (.pointer (some a)) σ
    | _ => none
  | .call f as => call f (as.map (·.ev ρ)) σ
  | .raw true op ty m => if uOk P (rawEnv gl m ρ) op then (match aop P (rawEnv gl m ρ) ⟨none, op, ty, "", #[], none⟩ σ with | some (.value v, _) => some (.ret v, σ) | _ => none) else none
  | .raw false op ty m => fraw call (aop P (rawEnv gl m ρ) ⟨none, op, ty, "", #[], none⟩ σ)

def gok (ρ : List Value) : Option (Src × Bool) → Bool
  | none => true
  | some (s, want) => match s.ev ρ with
    | .bool b => b == want
    | _ => false

def fchk (P : Program) (gl : Nat → Option Nat) (call : ACall) (g : Option (Src × Bool)) (o : FOp) (r : Src) (ρ : List Value) (σ : St) : Bool :=
  if gok ρ g then (match fop P gl call ρ σ o with | some (.ret v, _) => sameV 8 v (r.ev ρ) | _ => false) else sameV 8 undef (r.ev ρ)

def fops (P : Program) (gl : Nat → Option Nat) (call : ACall) : List FI → List Value → St → Option (FO × St)
  | [], ρ, σ => some (.nx ρ, σ)
  | .op p g o :: k, ρ, σ =>
    if gok ρ g then match fop P gl call ρ σ o with
      | some (.ret v, σ1) => fops P gl call k (if p then v :: ρ else ρ) σ1
      | some (.panic v, σ1) => some (.pan v, σ1)
      | none => none
    else fops P gl call k (if p then undef :: ρ else ρ) σ
  | .chk g o r :: k, ρ, σ => if fchk P gl call g o r ρ σ then fops P gl call k ρ σ else none
  | .shuf l :: k, ρ, σ => fops P gl call k (l.map (·.ev ρ)) σ

def fres (ρ : List Value) (σ : St) : FRes → Option Value
  | .v s => some (s.ev ρ)
  | .c s => match s.ev ρ with
    | .pointer (some a) => σ.cell? a
    | _ => none
  | .a n s => match s.ev ρ with
    | .pointer (some ⟨b, o, none⟩) => (σ.row? ⟨b, o, none⟩ n).map fun l => .agg l.toArray
    | _ => none
def fresl (ρ : List Value) (σ : St) : List FRes → Option (List Value)
  | [] => some []
  | r :: l => match fres ρ σ r, fresl ρ σ l with
    | some v, some vs => some (v :: vs)
    | _, _ => none

def floop (body : List Value → St → Option (FO × St)) : Nat → List Value → St → Option (FO × St)
  | 0, _, _ => none
  | n + 1, ρ, σ => match body ρ σ with
    | some (.nx ρ1, σ1) => floop body n ρ1 σ1
    | r => r

def fexec (P : Program) (gl : Nat → Option Nat) (n : Nat) (call : ACall) : FC → List Value → St → Option (FO × St)
  | .ops l, ρ, σ => fops P gl call l ρ σ
  | .seq a b, ρ, σ => match fexec P gl n call a ρ σ with
    | some (.nx ρ1, σ1) => fexec P gl n call b ρ1 σ1
    | r => r
  | .cond s a b, ρ, σ => match s.ev ρ with
    | .bool t => if t then fexec P gl n call a ρ σ else fexec P gl n call b ρ σ
    | _ => none
  | .block id c, ρ, σ => match fexec P gl n call c ρ σ with
    | some (.ex i ρ1, σ1) => if i = id then some (.nx ρ1, σ1) else some (.ex i ρ1, σ1)
    | r => r
  | .loop c, ρ, σ => floop (fexec P gl n call c) n ρ σ
  | .exit id l, ρ, σ => some (.ex id (l.map (·.ev ρ)), σ)
  | .ret l, ρ, σ => (fresl ρ σ l).map fun vs => (.ret (tup vs), σ)
  | .stuck, _, _ => none

structure FFun where
  na : Nat
  code : FC

def fbody (P : Program) (gl : Nat → Option Nat) (n : Nat) (call : ACall) (F : FFun) (args : List Value) (σ : St) : AOut :=
  if args.length = F.na then match fexec P gl n call F.code args σ with
    | some (.ret v, σ1) => some (.ret v, σ1)
    | some (.pan v, σ1) => some (.panic v, σ1)
    | _ => none
  else none

/-- A program of lowered functions; the others are hooks. -/
structure FP where
  P : Program
  gl : Nat → Option Nat
  tab : FuncId → Option FFun
  hooked : FuncId → Bool
  hook : FuncId → List Value → St → AOut

def fcall (Q : FP) : Nat → ACall
  | 0, _, _, _ => none
  | n + 1, f, args, σ => if Q.hooked f then Q.hook f args σ else match Q.tab f with
    | some F => fbody Q.P Q.gl (n + 1) (fcall Q n) F args σ
    | none => none

/-! ### The lowering -/
inductive Lv where
  | l (n : Nat)
  | c (v : Value)

def Lv.src (d : Nat) : Lv → Src
  | .l n => .r (d - 1 - n)
  | .c v => .c v

abbrev LM := List (Tmp × Lv)

def lvOf (G : Cfg) (m : LM) : Operand → Option Lv
  | .tmp t => m.lookup t
  | .const v => some (.c v)
  | .global g => (G.gl g).map fun h => .c (.pointer (some ⟨h, 0, none⟩))
  | .func f => some (.c (.func (.func f) #[] #[]))
def srcOf (G : Cfg) (m : LM) (d : Nat) (x : Operand) : Option Src := (lvOf G m x).map (·.src d)

def und (P : Program) (t : TypeId) : Option TypeDesc := P.underlying t
def isAggD : TypeDesc → Bool
  | .struct _ | .array _ _ => true
  | _ => false
def binT (P : Program) (op : BinOp) (t : TypeId) : Bool := match P.underlying t, op with
  | some (.int _), _ => true
  | some .string, .add | some .string, .eql | some .string, .neq => true
  | _, _ => false

def fieldKs (P : Program) : List Field → Nat → Option (List Nat)
  | [], _ => some []
  | f :: l, i =>
    if Nat.beq f.offset i && !(f.name == "_") then
      match P.underlying f.type, fieldKs P l (i + 1) with
      | some (.int _), some r => some (0 :: r)
      | some .string, some r => some (1 :: r)
      | some .bool, some r => some (2 :: r)
      | _, _ => none
    else none
/-- The kinds of a struct's fields, if it may be compared cell by cell. -/
def structKs (P : Program) (t : TypeId) : Option (List Nat) := match P.underlying t with
  | some (.struct fs) => if !P.eqGuardType P.depth t && !P.stoodInHeld t then fieldKs P fs.toList 0 else none
  | _ => none
def boolT (P : Program) (t : TypeId) : Bool := match P.underlying t with
  | some .bool => true
  | _ => false
def negOf : BinOp → Option Bool
  | .eql => some false
  | .neq => some true
  | _ => none
def rawMap (G : Cfg) (m : LM) (d : Nat) : List Operand → Option (List (Tmp × Src))
  | [] => some []
  | .tmp t :: l => match m.lookup t, rawMap G m d l with
    | some v, some r => some ((t, v.src d) :: r)
    | _, _ => none
  | _ :: l => rawMap G m d l

def mkRaw (G : Cfg) (m : LM) (d : Nat) (u : Bool) (o : Oper) : Option FOp := (rawMap G m d o.op.operands.toList).map fun r => .raw u o.op o.type r

def srcs (G : Cfg) (m : LM) (d : Nat) : List Operand → Option (List Src)
  | [] => some []
  | x :: l => match srcOf G m d x, srcs G m d l with
    | some s, some r => some (s :: r)
    | _, _ => none
def srcO (G : Cfg) (m : LM) (d : Nat) : Option Operand → Option (Option Src)
  | none => some none
  | some x => (srcOf G m d x).map some

def resOp (P : Program) (G : Cfg) (m : LM) (d : Nat) (u : Bool) (o : Oper) : Option FOp :=
  let S := srcOf G m d
  let raw := mkRaw G m d u o
  match o.op with
  | .move x | .assign x => (S x).map .mv
  | .pick c a b => match S c, S a, S b with
    | some c, some a, some b => some (.pick c a b)
    | _, _, _ => none
  | .alloc t => match zeroOf P t with
    | some z => if z.cells.toList.all St.oneCell && zchk P t then some (.new t z.cells.toList) else none
    | none => none
  | .box t x => (S x).map (.box t)
  | .load t x => match P.underlying t, szOf P t, S x with
    | some dd, some n, some x => if isAggD dd then some (.lda n x) else some (.ld x)
    | _, _, _ => none
  | .store t x v => match szOf P t, S x, S v with
    | some n, some x, some v => some (.st n x v)
    | _, _, _ => none
  | .fieldAddr t x k => match P.underlying t, S x with
    | some (.struct fs), some x => match fs.toList[k]? with
      | some f => match szOf P f.type with
        | some sz => if sz = 0 then raw else some (.fad f.offset x)
        | none => none
      | none => none
    | _, _ => none
  | .field t x k => match P.underlying t, S x with
    | some (.struct fs), some x => match fs.toList[k]? with
      | some f => match P.underlying f.type, szOf P f.type with
        | some dd, some sz => if isAggD dd then some (.flda f.offset sz x) else some (.fld f.offset x)
        | _, _ => none
      | none => none
    | _, _ => none
  | .indexAddr t x i => match P.underlying t, S x, S i with
    | some (.slice e), some x, some i => (szOf P e).map fun sz => .iad sz x i
    | some (.array n e), some x, some i => (szOf P e).map fun sz => .iada n sz x i
    | _, _, _ => none
  | .index t x i => match P.underlying t, S x, S i with
    | some .string, some x, some i => some (.ixs x i)
    | _, _, _ => raw
  | .binOp op t x y _ => if binT P op t then match S x, S y with
      | some x, some y => some (.bin op x y)
      | _, _ => none
    else match negOf op, boolT P t, structKs P t, S x, S y with
      | some neg, true, _, some x, some y => some (.bbin neg x y)
      | some neg, false, some ks, some x, some y => some (.sbin neg ks x y)
      | _, _, _, _, _ => raw
  | .unOp .not _ x => (S x).map .nt
  | .convert src dst x => match P.underlying src, P.underlying dst, S x with
    | some (.int _), some (.int k), some x => some (.cvi k x)
    | some .string, some .string, some x => some (.cvs x)
    | _, _, _ => raw
  | .slice t x lo hi none => match P.underlying t, S x, srcO G m d lo, srcO G m d hi with
    | some .string, some x, some lo, some hi => some (.sls x lo hi)
    | some (.slice e), some x, some lo, some hi => (szOf P e).map fun sz => .sll sz e x lo hi
    | _, _, _, _ => raw
  | .nilCheck x => (S x).map .nilc
  | .extract x i => (S x).map fun x => .ext x i
  | .makeInterface t x => match P.underlying t with
    | some (.interface _) | none => none
    | some _ => (S x).map (.mki t)
  | .call c => match c.callee with
    | .value (.func g) => if bodied P g then (srcs G m d c.args.toList).map (.call g) else raw
    | .builtin .len => match c.argTypes.toList[0]?, c.args.toList with
      | some t, [x] => match P.underlying t, S x with
        | some .string, some x => some (.lenS x)
        | some (.slice _), some x => some (.lenL x)
        | _, _ => raw
      | _, _ => raw
    | _ => raw
  | _ => raw

def isPtr (P : Program) (t : TypeId) : Bool := match P.underlying t with | some (.pointer _) => true | _ => false

def guardOf (ops : Array Oper) (m : LM) (d : Nat) (o : Oper) : Option (Option (Src × Bool)) := match o.guard with
  | none => some none
  | some (j, want) => match (ops.toList[j]?).bind (·.dst) with
    | some t => (m.lookup t).map fun v => some (v.src d, want)
    | none => none

/-- One operation: what is done, and the map behind it. -/
def lowOp (P : Program) (G : Cfg) (N : Nat) (ops : Array Oper) (u : Bool) (m : LM) (d : Nat) (o : Oper) : Option (List FI × LM × Nat) :=
  match guardOf ops m d o, o.dst with
  | some g, some t => if t < N then
      match g, o.op with
      | none, .move x | none, .assign x => (lvOf G m x).map fun v => ([], (t, v) :: m, d)
      | g, _ => (resOp P G m d u o).map fun fo => ([.op true g fo], (t, .l d) :: m, d + 1)
    else none
  | some g, none => (resOp P G m d u o).map fun fo => ([.op false g fo], m, d)
  | none, _ => none

def lowOps (P : Program) (G : Cfg) (N : Nat) (ops : Array Oper) : List Oper → LM → Nat → Option (List FI × LM × Nat)
  | [], m, d => some ([], m, d)
  | o :: l, m, d => match lowOp P G N ops false m d o with
    | some (a, m1, d1) => match lowOps P G N ops l m1 d1 with
      | some (b, m2, d2) => some (a ++ b, m2, d2)
      | none => none
    | none => none

def lowChk (P : Program) (G : Cfg) (ops : Array Oper) (m : LM) (d : Nat) : List Nat → Option (List FI)
  | [] => some []
  | k :: l => match ops.toList[k]? with
    | some o => match guardOf ops m d o, resOp P G m d true o, o.dst, lowChk P G ops m d l with
      | some g, some fo, some t, some r => if kd o.op = .u then (m.lookup t).map fun v => .chk g fo (v.src d) :: r else none
      | _, _, _, _ => none
    | none => none

def lowPlan (P : Program) (G : Cfg) (N : Nat) (ops : Array Oper) : List (Nat × List Nat) → LM → Nat → Option (List FI × LM × Nat)
  | [], m, d => some ([], m, d)
  | (i, re) :: l, m, d => match ops.toList[i]? with
    | some o => match lowOp P G N ops (decide (kd o.op = .u)) m d o with
      | some (a, m1, d1) => match (if kd o.op = .u then some [] else lowChk P G ops m1 d1 re), lowPlan P G N ops l m1 d1 with
        | some c, some (b, m2, d2) => some (a ++ c ++ b, m2, d2)
        | _, _ => none
      | none => none
    | none => none

/-- Where ways meet: which temporaries are kept. -/
inductive Sk where
  | leaf
  | seq (a b : Sk)
  | cond (j : List Tmp) (a b : Sk)
  | block (j : List Tmp) (b : Sk)
  | loop (j : List Tmp) (b : Sk)
  | stuck
  deriving Inhabited

def mkM : List Tmp → LM × Nat
  | [] => ([], 0)
  | t :: l => ((t, .l (mkM l).2) :: (mkM l).1, (mkM l).2 + 1)
def shufOf (m : LM) (d : Nat) : List Tmp → Option (List Src)
  | [] => some []
  | t :: l => match m.lookup t, shufOf m d l with
    | some v, some r => some (v.src d :: r)
    | _, _ => none
def resOf (P : Program) (m : LM) (d : Nat) : List ResultVar → Option (List FRes)
  | [] => some []
  | .tmp t :: l => match m.lookup t, resOf P m d l with
    | some v, some r => some (.v (v.src d) :: r)
    | _, _ => none
  | .cell t ty :: l => match m.lookup t, resOf P m d l, P.underlying ty, szOf P ty with
    | some v, some r, some dd, some n => some ((if isAggD dd then .a n (v.src d) else .c (v.src d)) :: r)
    | _, _, _, _ => none

def lowC (P : Program) (G : Cfg) (N : Nat) (rs : List ResultVar) : Sk → Code → List (Nat × List Tmp) → LM → Nat → Option (FC × Option (LM × Nat))
  | .leaf, .skip, ex, m, d => some (.ops [], some (m, d))
  | .leaf, .region _ ops false, ex, m, d => (lowOps P G N ops ops.toList m d).map fun r => (.ops r.1, some r.2)
  | .leaf, .region _ ops true, ex, m, d => match planOf P ops with
    | some pl => (lowPlan P G N ops pl m d).map fun r => (.ops r.1, some r.2)
    | none => none
  | .leaf, .exit id, ex, m, d => match ex.lookup id with
    | some j => (shufOf m d j).map fun l => (.exit id l, none)
    | none => none
  | .leaf, .ret, ex, m, d => (resOf P m d rs).map fun l => (.ret l, none)
  | .stuck, _, ex, m, d => some (.stuck, none)
  | .seq sa sb, .seq a b, ex, m, d => match lowC P G N rs sa a ex m d with
    | some (A, some (m1, d1)) => (lowC P G N rs sb b ex m1 d1).map fun r => (.seq A r.1, r.2)
    | some (A, none) => some (A, none)
    | none => none
  | .cond j sa sb, .cond c a b, ex, m, d => match srcOf G m d c, lowC P G N rs sa a ex m d, lowC P G N rs sb b ex m d with
    | some s, some (A, some (m1, d1)), some (B, some (m2, d2)) => match shufOf m1 d1 j, shufOf m2 d2 j with
      | some l1, some l2 => some (.cond s (.seq A (.ops [.shuf l1])) (.seq B (.ops [.shuf l2])), some (mkM j))
      | _, _ => none
    | some s, some (A, some x), some (B, none) => some (.cond s A B, some x)
    | some s, some (A, none), some (B, x) => some (.cond s A B, x)
    | _, _, _ => none
  | .block j sb, .block id b, ex, m, d => match lowC P G N rs sb b ((id, j) :: ex) m d with
    | some (B, some (m1, d1)) => (shufOf m1 d1 j).map fun l => (.block id (.seq B (.ops [.shuf l])), some (mkM j))
    | some (B, none) => some (.block id B, some (mkM j))
    | none => none
  | .loop j sb, .loop b, ex, m, d => match shufOf m d j, lowC P G N rs sb b ex (mkM j).1 (mkM j).2 with
    | some l, some (B, some (m1, d1)) => (shufOf m1 d1 j).map fun l1 => (.seq (.ops [.shuf l]) (.loop (.seq B (.ops [.shuf l1]))), none)
    | some l, some (B, none) => some (.seq (.ops [.shuf l]) (.loop B), none)
    | _, _ => none
  | _, _, _, _, _ => none

def lowF (P : Program) (G : Cfg) (na : Nat) (sk : Sk) (fn : Func) : Option FC := match fn.body with
  | some c => if na ≤ fn.ntmps then match lowC P G fn.ntmps fn.results.toList sk c [] (mkM (List.range na)).1 (mkM (List.range na)).2 with
    | some (A, some (m, d)) => (resOf P m d fn.results.toList).map fun l => .seq A (.ret l)
    | some (A, none) => some A
    | none => none
    else none
  | none => none
end Go.AM
namespace Go.AM
open Go

/-! The lowered operations against the abstract ones. -/
theorem size_bytes (b : ByteArray) : b.size = b.data.toList.length := (Array.length_toList (xs := b.data)).symm
section
variable {P : Program} {σ : St}
theorem f_und {t : TypeId} {d : TypeDesc} (h : P.underlying t = some d) : arun P (underlying t) σ = some (d, σ) := arun_und h
theorem f_info {t : TypeId} {i : TypeInfo} (h : P.info? t = some i) : arun P (typeInfo t) σ = some (i, σ) := by
  unfold typeInfo
  rw [arun_bind]
  simp [program, arun, h, arun_pure]
theorem szOf_info {t : TypeId} {n : Nat} (h : szOf P t = some n) : ∃ i, P.info? t = some i ∧ i.size = n := by
  unfold szOf at h
  rw [Option.map_eq_some_iff] at h
  exact h
theorem f_size {t : TypeId} {n : Nat} (h : szOf P t = some n) : arun P (sizeOf t) σ = some (n, σ) := by
  obtain ⟨i, h1, h2⟩ := szOf_info h
  unfold sizeOf
  rw [arun_bind, f_info h1]
  simp [arun_pure, h2]
theorem f_agg {t : TypeId} {d : TypeDesc} (h : P.underlying t = some d) : arun P (isAgg t) σ = some (isAggD d, σ) := by
  unfold isAgg
  rw [arun_bind, f_und h, Option.bind_some]
  cases d <;> rfl
theorem f_zero {t : TypeId} {z : Value} (h : zeroOf P t = some z) : arun P (zeroValue t) σ = some (z, σ) := by
  unfold zeroOf at h
  rw [Option.bind_eq_some_iff] at h
  obtain ⟨i, h1, h2⟩ := h
  unfold zeroValue
  rw [arun_bind, f_info h1]
  simp [h2, arun_pure]
theorem f_newVar {t : TypeId} {v : Value} (h : v.cells.toList.all St.oneCell = true) : arun P (newVar t v) σ = some (⟨σ.n, 0, none⟩, σ.alloc (.cells v.cells.toList t true)) := by
  unfold newVar newRow newObj
  rw [arun_bind]
  simp only [arun, newObj?, h, if_true, Option.bind_some]
  rfl
theorem f_alloc {t : TypeId} {z : Value} (hz : zeroOf P t = some z) (h : z.cells.toList.all St.oneCell = true) :
    arun P (Instr.alloc t true (.tuple #[])) σ = some (.pointer (some ⟨σ.n, 0, none⟩), σ.alloc (.cells z.cells.toList t true)) := by
  unfold Instr.alloc
  rw [arun_bind, f_zero hz, Option.bind_some, arun_bind, f_newVar h, Option.bind_some]
  rfl
theorem f_box {t : TypeId} {v : Value} (h : v.cells.toList.all St.oneCell = true) :
    arun P (Instr.box t v) σ = some (.pointer (some ⟨σ.n, 0, none⟩), σ.alloc (.cells v.cells.toList t true)) := by
  unfold Instr.box
  rw [arun_bind, f_newVar h, Option.bind_some]
  rfl
theorem f_load1 {t : TypeId} {d : TypeDesc} (h : P.underlying t = some d) (hd : isAggD d = false) {a : Addr} {v : Value} (hc : σ.cell? a = some v) : arun P (loadVar t a) σ = some (v, σ) := by
  unfold loadVar
  rw [arun_bind, f_agg h, Option.bind_some, hd]
  simp [load, arun, hc]
theorem f_loadA {t : TypeId} {d : TypeDesc} (h : P.underlying t = some d) (hd : isAggD d = true) {n : Nat} (hn : szOf P t = some n) {b o : Nat} {l : List Value} (hc : σ.row? ⟨b, o, none⟩ n = some l) :
    arun P (loadVar t ⟨b, o, none⟩) σ = some (.agg l.toArray, σ) := by
  unfold loadVar
  rw [arun_bind, f_agg h, Option.bind_some, hd]
  simp only [if_true]
  rw [arun_bind, f_size hn, Option.bind_some, arun_bind, arun_loadCells _ _ rfl hc, Option.bind_some]
  rfl
theorem f_loadAt (t : TypeId) (a : Addr) : arun P (Instr.loadAt t (.pointer (some a))) σ = arun P (loadVar t a) σ := by
  unfold Instr.loadAt Instr.sureAddr
  rw [arun_bind, arun_pure, Option.bind_some]
theorem f_stc (a : Addr) : ∀ (l : List Value) (σ : St) (i : Nat), arun P (storeCells a l i) σ = (stc σ a l i).map fun s => ((), s) := by
  intro l
  induction l with
  | nil => intro σ i; rfl
  | cons v l ih =>
    intro σ i
    unfold storeCells
    rw [arun_bind]
    simp only [store, arun, stc]
    cases h1 : σ.setCell? (a.add i) v with
    | some σ1 =>
      simp only [Option.bind_some]
      exact ih σ1 (i + 1)
    | none => rfl
theorem _root_.Go.AM.Tri.insert_insert (o1 o2 : AObj) : ∀ (f : Nat) (t : Tri) (k : Nat), Tri.insert o2 f (Tri.insert o1 f t k) k = Tri.insert o2 f t k := by
  intro f
  induction f with
  | zero => intro t k; rfl
  | succ f ih =>
    intro t k
    cases t with
    | leaf =>
      cases k with
      | zero => rfl
      | succ k =>
        simp only [Tri.insert]
        by_cases h : k % 2 = 0
        · simp only [h, if_true, Tri.insert, ih]
        · simp only [h, if_false, Tri.insert, ih]
    | node v l r =>
      cases k with
      | zero => rfl
      | succ k =>
        simp only [Tri.insert]
        by_cases h : k % 2 = 0
        · simp only [h, if_true, Tri.insert, ih]
        · simp only [h, if_false, Tri.insert, ih]
theorem put_touch_put (σ : St) (h : Nat) (o1 o2 : AObj) : (((σ.put h o1).touch h).put h o2).touch h = (σ.put h o2).touch h := by
  simp only [St.put, St.touch, Tri.insert_insert]
  congr 1
  rw [Bool.or_assoc]
  congr 1
  exact Bool.or_self _
theorem splice {α : Type} (A D W : List α) (c v : α) : ((A ++ c :: D).set A.length v).take (A.length + 1) ++ (W ++ ((A ++ c :: D).set A.length v).drop (A.length + 1 + W.length)) =
    (A ++ c :: D).take A.length ++ ((v :: W) ++ (A ++ c :: D).drop (A.length + (W.length + 1))) := by
  have h0 : (A ++ c :: D).set A.length v = A ++ v :: D := by simp
  have h1 : (A ++ v :: D).take (A.length + 1) = A ++ [v] := by
    rw [List.take_append, List.take_of_length_le (by omega)]
    simp
  have h2 : ∀ x, (A ++ x :: D).drop (A.length + 1 + W.length) = D.drop W.length := by
    intro x
    rw [List.drop_append, List.drop_eq_nil_of_le (by omega)]
    have : A.length + 1 + W.length - A.length = W.length + 1 := by omega
    rw [this]
    rfl
  have e : A.length + (W.length + 1) = A.length + 1 + W.length := by omega
  rw [h0, h1, h2, e, h2]
  simp
theorem addr_plus (b o i : Nat) : (⟨b, o, none⟩ : Addr).add i = ⟨b, o + i, none⟩ := by
  unfold Addr.add
  split
  · rename_i h; subst h; rfl
  · rfl
theorem stc_all (b o : Nat) (t : TypeId) : ∀ (vs : List Value) (cs : List Value) (i : Nat) (σ : St), σ.get b = some (.cells cs t true) → o + i + vs.length ≤ cs.length → vs.all St.oneCell = true → vs ≠ [] →
    stc σ ⟨b, o, none⟩ vs i = some ((σ.put b (.cells (cs.take (o + i) ++ (vs ++ cs.drop (o + i + vs.length))) t true)).touch b) := by
  intro vs
  induction vs with
  | nil => intro cs i σ _ _ _ h; exact absurd rfl h
  | cons v vs ih =>
    intro cs i σ hg hl ha _
    simp only [List.all_cons, Bool.and_eq_true] at ha
    simp only [List.length_cons] at hl
    have hlt : o + i < cs.length := by omega
    have hs : σ.setCell? ((⟨b, o, none⟩ : Addr).add i) v = some ((σ.put b (.cells (cs.set (o + i) v) t true)).touch b) := by
      rw [addr_plus]
      simp only [St.setCell?, hg, Option.isSome_none, Bool.false_eq_true, if_false, hlt, if_true, ha.1]
    simp only [stc, hs]
    cases vs with
    | nil =>
      simp only [stc, List.length_cons, List.length_nil]
      congr 4
      rw [List.set_eq_take_append_cons_drop, if_pos hlt]
      rfl
    | cons w vs =>
      have hb : b < σ.n := St.get_lt hg
      have hg' : ((σ.put b (.cells (cs.set (o + i) v) t true)).touch b).get b = some (.cells (cs.set (o + i) v) t true) := by
        rw [St.get_touch, St.get_put_eq σ _ hb]
      rw [ih (cs.set (o + i) v) (i + 1) _ hg' (by simp only [List.length_set]; omega) ha.2 (by simp), put_touch_put]
      have e1 : o + (i + 1) = (o + i) + 1 := by omega
      have hcs : cs = cs.take (o + i) ++ cs[o + i] :: cs.drop (o + i + 1) := by simp
      have hlen : (cs.take (o + i)).length = o + i := by simp; omega
      have := splice (cs.take (o + i)) (cs.drop (o + i + 1)) (w :: vs) cs[o + i] v
      rw [← hcs, hlen] at this
      rw [e1, this]
      rfl
theorem stAll_stc {σ : St} {a : Addr} {vs : List Value} {σ1 : St} (h : stAll σ a vs = some σ1) : stc σ a vs 0 = some σ1 := by
  unfold stAll at h
  split at h
  · exact h
  · simp only [stc]
    have : a.add 0 = a := rfl
    rw [this, h]
  · rename_i hne1 hne2
    split at h
    · rename_i cs t hg hs
      split at h
      case isFalse => cases h
      rename_i hl
      split at h
      case isFalse => cases h
      rename_i ha
      injection h with h
      subst h
      obtain ⟨b, o, sp⟩ := a
      simp only at hs hg hl
      subst hs
      exact stc_all b o t vs cs 0 σ hg hl ha (fun e => hne1 e)
    · cases h
theorem f_store {t : TypeId} {n : Nat} (hn : szOf P t = some n) {a : Addr} {v : Value} (hv : v.cells.size = n) {σ1 : St} (h : stAll σ a v.cells.toList = some σ1) :
    arun P (Instr.storeAt t (.pointer (some a)) v) σ = some ((), σ1) := by
  unfold Instr.storeAt Instr.sureAddr storeVar
  rw [arun_bind, arun_pure, Option.bind_some, arun_bind, f_size hn, Option.bind_some]
  simp only [hv, ne_eq, not_true_eq_false, if_false]
  exact (f_stc a _ σ 0).trans (by rw [stAll_stc h]; rfl)
theorem f_field {t : TypeId} {fs : Array Field} (h : P.underlying t = some (.struct fs)) {k : Nat} {f : Field} (hk : fs.toList[k]? = some f) {sz : Nat} (hs : szOf P f.type = some sz) (h0 : sz ≠ 0) (a : Addr) :
    arun P (Instr.fieldAt t (.pointer (some a)) k) σ = some (.pointer (some (a.add f.offset)), σ) := by
  have hk' : fs[k]? = some f := by simpa using hk
  unfold Instr.fieldAt
  rw [arun_bind, f_und h, Option.bind_some]
  simp only [hk']
  unfold Instr.sureAddr
  rw [arun_bind, arun_pure, Option.bind_some, arun_bind]
  unfold fieldPlace
  rw [arun_bind, f_size hs, Option.bind_some]
  simp [h0, arun_pure]
theorem f_part1 {t : TypeId} {d : TypeDesc} (h : P.underlying t = some d) (hd : isAggD d = false) {cs : Array Value} {off : Nat} {v : Value} (hv : cs.toList[off]? = some v) : arun P (part t cs off) σ = some (v, σ) := by
  have hv' : cs[off]? = some v := by simpa using hv
  unfold part
  rw [arun_bind, f_agg h, Option.bind_some, hd]
  simp [hv', arun_pure]
theorem f_partA {t : TypeId} {d : TypeDesc} (h : P.underlying t = some d) (hd : isAggD d = true) {n : Nat} (hn : szOf P t = some n) (cs : Array Value) (off : Nat) : arun P (part t cs off) σ = some (.agg ((cs.toList.drop off).take n).toArray, σ) := by
  unfold part
  rw [arun_bind, f_agg h, Option.bind_some, hd]
  simp only [if_true]
  rw [arun_bind, f_size hn, Option.bind_some, arun_pure]
  congr 3
  apply Array.ext'
  simp
theorem f_fld {t : TypeId} {fs : Array Field} (h : P.underlying t = some (.struct fs)) {k : Nat} {f : Field} (hk : fs.toList[k]? = some f) (cs : Array Value) :
    arun P (Instr.field t (.agg cs) k) σ = arun P (part f.type cs f.offset) σ := by
  have hk' : fs[k]? = some f := by simpa using hk
  unfold Instr.field
  rw [arun_bind, f_und h, Option.bind_some]
  simp only [hk']
  unfold asAgg
  rw [arun_bind, arun_pure, Option.bind_some]
theorem f_iad {t e : TypeId} (h : P.underlying t = some (.slice e)) {sz : Nat} (hs : szOf P e = some sz) (a : Addr) (len cap : Nat) (k : IntKind) {j : Int} {i : Nat} (hj : fidx j len = some i) :
    arun P (Instr.indexAt t (.slice (some a) len cap) (.int k j)) σ = some (.pointer (some (a.add (i * sz))), σ) := by
  obtain ⟨h1, h2, h3⟩ := fidx_some hj
  unfold Instr.indexAt
  simp only [arun_bind, asIntOf, arun_pure, Option.bind_some, f_und h, h1, h2, h3, and_self, if_true, f_size hs]
theorem f_iada {t e : TypeId} {len : Nat} (h : P.underlying t = some (.array len e)) {sz : Nat} (hs : szOf P e = some sz) (a : Addr) (k : IntKind) {j : Int} {i : Nat} (hj : fidx j len = some i) :
    arun P (Instr.indexAt t (.pointer (some a)) (.int k j)) σ = some (.pointer (some (a.add (i * sz))), σ) := by
  obtain ⟨h1, h2, h3⟩ := fidx_some hj
  unfold Instr.indexAt
  simp only [arun_bind, asIntOf, arun_pure, Option.bind_some, f_und h, Instr.sureAddr, h1, h2, h3, and_self, if_true, f_size hs]
theorem getElem_bytes (s : ByteArray) (i : Nat) : s[i]? = s.data.toList[i]? := by
  by_cases h : i < s.size
  · have h' : i < s.data.toList.length := by simpa using h
    rw [getElem?_pos s i h, List.getElem?_eq_getElem h']
    rfl
  · rw [getElem?_neg s i h, List.getElem?_eq_none (by simpa using h)]
theorem f_ixs {t : TypeId} (h : P.underlying t = some .string) (s : ByteArray) (k : IntKind) {j : Int} (hj : 0 ≤ j) {b : UInt8} (hb : s.data.toList[j.toNat]? = some b) :
    arun P (Instr.index t (.string s) (.int k j)) σ = some (.int .u8 b.toNat, σ) := by
  unfold Instr.index
  simp only [arun_bind, asIntOf, arun_pure, Option.bind_some, f_und h, hj, if_true, getElem_bytes, hb]
theorem f_ext {vs : Array Value} {i : Nat} {v : Value} (h : vs.toList[i]? = some v) : arun P (Instr.extract (.tuple vs) i) σ = some (v, σ) := by
  have h' : vs[i]? = some v := by simpa using h
  simp [Instr.extract, h', arun_pure]
theorem f_mki {t : TypeId} {d : TypeDesc} (h : P.underlying t = some d) (hd : ∀ ms, d ≠ .interface ms) (x : Value) : arun P (Instr.makeInterface t x) σ = some (.iface t x, σ) := by
  unfold Instr.makeInterface
  rw [arun_bind, f_und h, Option.bind_some]
  cases d <;> first | rfl | exact absurd rfl (hd _)
theorem f_lenS {t : TypeId} (h : P.underlying t = some .string) (ts : Array TypeId) (ht : ts.toList[0]? = some t) (ty : TypeId) (s : ByteArray) : arun P (Builtin.len_ ts ty #[.string s]) σ = some (.int .i64 s.data.toList.length, σ) := by
  have ht' : ts[0]? = some t := by simpa using ht
  unfold Builtin.len_
  simp only [ht', List.getElem?_toArray, List.getElem?_cons_zero]
  rw [arun_bind, f_und h, Option.bind_some]
  simp only [arun_pure, goInt, size_bytes]
theorem f_lenL {t e : TypeId} (h : P.underlying t = some (.slice e)) (ts : Array TypeId) (ht : ts.toList[0]? = some t) (ty : TypeId) (a : Option Addr) (n c : Nat) : arun P (Builtin.len_ ts ty #[.slice a n c]) σ = some (.int .i64 n, σ) := by
  have ht' : ts[0]? = some t := by simpa using ht
  unfold Builtin.len_
  simp only [ht', List.getElem?_toArray, List.getElem?_cons_zero]
  rw [arun_bind, f_und h, Option.bind_some]
  rfl
end

theorem fshn_some {k : IntKind} {b : Int} {n : Nat} (h : fshn k b = some n) : ¬ b < 0 ∧ n = min b.toNat k.bits := by
  cases b with
  | ofNat m => injection h with h; exact ⟨by simp, h.symm⟩
  | negSucc m => cases h
theorem shift_ok {P : Program} {σ : St} {k k' : IntKind} {a b : Int} {n : Nat} (h : fshn k b = some n) : arun P (Op.shift .shl k a k' b) σ = some (.int k (fwrap k (a * two n)), σ) ∧ arun P (Op.shift .shr k a k' b) σ = some (.int k (fshr a n), σ) := by
  obtain ⟨h1, h2⟩ := fshn_some h
  subst h2
  unfold Op.shift
  simp only [h1, if_false, fwrap_eq, two_eq, fshr_eq]
  exact ⟨rfl, rfl⟩
theorem bin_op {P : Program} {σ : St} (op : BinOp) (t : TypeId) (k k' : IntKind) (a b : Int) {v : Value} (h : fint op k k' a b = some v) : arun P (binOp op t (.int k a) (.int k' b)) σ = some (v, σ) := by
  cases op
  case shl =>
    simp only [fint, Option.map_eq_some_iff] at h
    obtain ⟨n, h1, h2⟩ := h
    subst h2
    exact (shift_ok (k' := k') h1).1
  case shr =>
    simp only [fint, Option.map_eq_some_iff] at h
    obtain ⟨n, h1, h2⟩ := h
    subst h2
    exact (shift_ok (k' := k') h1).2
  case quo | rem =>
    simp only [fint] at h
    cases hq : (keq k k' && !fieq b 0) with
    | false => rw [hq] at h; cases h
    | true =>
      rw [hq, cond_true] at h
      rw [Bool.and_eq_true] at hq
      obtain rfl := keq_eq hq.1
      have h0 : ¬ b = 0 := by simpa using hq.2
      injection h with h
      subst h
      simp [binOp, Op.intDiv, h0, arun_pure]
  all_goals
    simp only [fint] at h
    cases hq : keq k k' with
    | false => rw [hq] at h; cases h
    | true =>
      rw [hq, cond_true] at h
      obtain rfl := keq_eq hq
      injection h with h
      subst h
      simp only [binOp, ne_eq, not_true_eq_false, if_false, Op.intArith, Op.intBits, Op.intCmp, fwrap_eq, fland_eq, flor_eq, flxor_eq, fieq_eq, filt_eq, arun_pure, Option.some.injEq, Prod.mk.injEq, Value.bool.injEq, Value.int.injEq, and_true, true_and]
      try (first | rfl | (rw [Bool.eq_iff_iff]; simp))
theorem toList_bytes (b : ByteArray) : b.toList = b.data.toList := by
  have hl : ∀ (n i : Nat) (r : List UInt8), b.size - i ≤ n → ByteArray.toList.loop b i r = r.reverse ++ b.data.toList.drop i := by
    intro n
    induction n with
    | zero =>
      intro i r h
      unfold ByteArray.toList.loop
      have : ¬ i < b.size := by omega
      rw [if_neg this, List.drop_eq_nil_of_le (by simpa using this)]
      simp
    | succ n ih =>
      intro i r h
      unfold ByteArray.toList.loop
      by_cases hi : i < b.size
      · rw [if_pos hi, ih (i + 1) _ (by omega)]
        have hi' : i < b.data.toList.length := by simpa using hi
        rw [List.drop_eq_getElem_cons hi']
        simp [ByteArray.get!, Array.get!Internal, hi]
      · rw [if_neg hi, List.drop_eq_nil_of_le (by simpa using hi)]
        simp
  simpa [ByteArray.toList] using hl b.size 0 [] (by omega)
theorem append_bytes (a b : ByteArray) : a ++ b = bs (a.data.toList ++ b.data.toList) := by
  apply ByteArray.ext
  apply Array.ext'
  simp
theorem bin_str {P : Program} {σ : St} (op : BinOp) (t : TypeId) (a b : ByteArray) {v : Value} (h : fstr op a.data.toList b.data.toList = some v) : arun P (binOp op t (.string a) (.string b)) σ = some (v, σ) := by
  cases op <;> simp only [fstr] at h <;> first | (cases h; done) | skip
  case add =>
    split at h
    case isFalse => cases h
    rename_i hl
    injection h with h
    subst h
    simp only [binOp, Op.stringOp, size_bytes]
    have : ¬ (((a.data.toList.length + b.data.toList.length : Nat) : Int) > IntKind.i64.max) := by
      have : IntKind.i64.max = 9223372036854775807 := by decide
      omega
    rw [if_neg this, append_bytes]
    rfl
  all_goals
    injection h with h
    subst h
    simp only [binOp, Op.stringOp, toList_bytes, fleq_eq, arun_pure, Option.some.injEq, Prod.mk.injEq, Value.bool.injEq, and_true]
    rw [Bool.eq_iff_iff]
    simp
theorem neg_op {op : BinOp} {neg : Bool} (h : negOf op = some neg) : (op = .eql ∧ neg = false) ∨ (op = .neq ∧ neg = true) := by
  cases op <;> simp only [negOf] at h <;> first | (cases h; done) | (injection h with h; subst h; simp)
theorem bin_eq {P : Program} {σ : St} {op : BinOp} {neg : Bool} (h : negOf op = some neg) {t : TypeId} {x y : Value} (hx : (∃ b, x = .bool b) ∨ ∃ cs, x = .agg cs) (hy : (∃ b, y = .bool b) ∨ ∃ cs, y = .agg cs) {b : Bool} (he : arun P (Op.equal t x y) σ = some (b, σ)) :
    arun P (binOp op t x y) σ = some (.bool (if neg then !b else b), σ) := by
  rcases neg_op h with ⟨rfl, rfl⟩ | ⟨rfl, rfl⟩ <;> rcases hx with ⟨a, rfl⟩ | ⟨a, rfl⟩ <;> rcases hy with ⟨c, rfl⟩ | ⟨c, rfl⟩ <;>
    (simp only [binOp]; rw [arun_bind, he]; rfl)
theorem bytes_beq' (a b : ByteArray) : (a == b) = true ↔ a = b := by
  obtain ⟨x⟩ := a
  obtain ⟨y⟩ := b
  show (x == y) = true ↔ _
  rw [beq_iff_eq]
  exact ⟨fun h => by rw [h], fun h => by injection h⟩
theorem equal_bool {P : Program} {σ : St} {n : Nat} {t : TypeId} (ht : P.underlying t = some .bool) (a b : Bool) : arun P (Op.equalIn (n + 1) t (.bool a) (.bool b)) σ = some (a == b, σ) := by
  unfold Op.equalIn
  rw [arun_bind, f_und ht, Option.bind_some]
  rfl
theorem equal_leaf {P : Program} {σ : St} {n : Nat} {t : TypeId} {d : TypeDesc} (ht : P.underlying t = some d) {k : Nat} (hk : (∃ i, d = .int i) ∧ k = 0 ∨ d = .string ∧ k = 1 ∨ d = .bool ∧ k = 2) {x y : Value} {b : Bool} (h : leafEq k x y = some b) :
    arun P (Op.equalIn (n + 1) t x y) σ = some (b, σ) := by
  rcases hk with ⟨⟨i, rfl⟩, rfl⟩ | ⟨rfl, rfl⟩ | ⟨rfl, rfl⟩
  · unfold leafEq at h
    split at h <;> first | (rename_i hz; cases hz; done) | (rename_i hz _; cases hz; done) | skip
    · rename_i k a k' c _
      cases hq : keq k k' with
      | false => rw [hq] at h; cases h
      | true =>
        rw [hq, cond_true] at h
        obtain rfl := keq_eq hq
        injection h with h
        subst h
        unfold Op.equalIn
        rw [arun_bind, f_und ht, Option.bind_some]
        simp only [if_true, fieq_eq]
        rw [arun_pure]
        congr 2
    all_goals cases h
  · unfold leafEq at h
    split at h <;> first | (rename_i hz; cases hz; done) | (rename_i hz _; cases hz; done) | skip
    · rename_i a c _
      injection h with h
      subst h
      unfold Op.equalIn
      rw [arun_bind, f_und ht, Option.bind_some]
      simp only [fleq_eq]
      rw [arun_pure]
      congr 2
      rw [Bool.eq_iff_iff, bytes_beq', decide_eq_true_eq]
      exact ⟨fun e => by rw [e], fun e => ByteArray.ext (Array.ext' e)⟩
    all_goals cases h
  · unfold leafEq at h
    split at h <;> first | (rename_i hz; cases hz; done) | (rename_i hz _; cases hz; done) | skip
    · injection h with h
      subst h
      exact equal_bool ht _ _
    all_goals cases h
theorem fieldKs_cons {P : Program} {f : Field} {l : List Field} {i : Nat} {ks : List Nat} (h : fieldKs P (f :: l) i = some ks) : f.offset = i ∧ ¬ f.name = "_" ∧ ∃ d k r, P.underlying f.type = some d ∧ ((∃ j, d = .int j) ∧ k = 0 ∨ d = .string ∧ k = 1 ∨ d = .bool ∧ k = 2) ∧ fieldKs P l (i + 1) = some r ∧ ks = k :: r := by
  simp only [fieldKs] at h
  split at h
  case isFalse => cases h
  rename_i hc
  rw [Bool.and_eq_true] at hc
  refine ⟨Nat.eq_of_beq_eq_true hc.1, by simpa using hc.2, ?_⟩
  split at h <;> first | (cases h; done) | skip
  · rename_i j r h1 h2
    injection h with h
    exact ⟨_, 0, r, h1, .inl ⟨⟨_, rfl⟩, rfl⟩, h2, h.symm⟩
  · rename_i r h1 h2
    injection h with h
    exact ⟨_, 1, r, h1, .inr (.inl ⟨rfl, rfl⟩), h2, h.symm⟩
  · rename_i r h1 h2
    injection h with h
    exact ⟨_, 2, r, h1, .inr (.inr ⟨rfl, rfl⟩), h2, h.symm⟩
theorem equal_struct {P : Program} {σ : St} {t : TypeId} {ks : List Nat} (hk : structKs P t = some ks) {xs ys : Array Value} {b : Bool} (h : cellsEq ks xs.toList ys.toList = some b) :
    guardOk P t (.agg xs) (.agg ys) = true ∧ P.eqGuardType P.depth t = false ∧ arun P (Op.equal t (.agg xs) (.agg ys)) σ = some (b, σ) := by
  unfold structKs at hk
  split at hk
  case h_2 => cases hk
  rename_i fs ht
  split at hk
  case isFalse => cases hk
  rename_i hc
  rw [Bool.and_eq_true] at hc
  have hg : P.eqGuardType P.depth t = false := by simpa using hc.1
  have hs : P.stoodInHeld t = false := by simpa using hc.2
  refine ⟨by simp [guardOk, hg], hg, ?_⟩
  unfold Op.equal Op.maxDepth
  unfold Op.equalIn
  rw [arun_bind, f_und ht, Option.bind_some]
  dsimp only
  rw [arun_bind]
  simp only [program, arun, Option.bind_some, hs, Bool.false_eq_true, if_false]
  rw [arun_bind, ← Array.forIn_toList]
  have key : ∀ (l : List Field) (i : Nat) (ks : List Nat), fieldKs P l i = some ks → cellsEq ks (xs.toList.drop i) (ys.toList.drop i) = some b →
      arun P (forIn l ((none : Option Bool), ()) fun f __s =>
              if f.name ≠ "_" then do
                let __do_lift ← part f.type xs f.offset
                let __do_lift_1 ← part f.type ys f.offset
                let __do_lift ← Op.equalIn 9999 f.type __do_lift __do_lift_1
                if (!__do_lift) = true then pure (ForInStep.done (some false, ()))
                  else pure (ForInStep.yield (none, ()))
              else pure (ForInStep.yield (none, ()))) σ = some ((if b then none else some false, ()), σ) := by
    intro l
    induction l with
    | nil =>
      intro i ks hks hce
      injection hks with hks
      subst hks
      injection hce with hce
      subst hce
      rfl
    | cons f l ih =>
      intro i ks hks hce
      obtain ⟨h1, h2, d, k, r, h3, h4, h5, rfl⟩ := fieldKs_cons hks
      have hd : isAggD d = false := by rcases h4 with ⟨⟨j, rfl⟩, _⟩ | ⟨rfl, _⟩ | ⟨rfl, _⟩ <;> rfl
      cases hx : xs.toList.drop i with
      | nil => rw [hx] at hce; cases hce
      | cons x xr =>
        cases hy : ys.toList.drop i with
        | nil => rw [hx, hy] at hce; cases hce
        | cons y yr =>
          rw [hx, hy] at hce
          have gx : xs.toList[i]? = some x := by
            have := List.getElem?_drop (xs := xs.toList) (i := i) (j := 0)
            rw [hx] at this
            simpa using this.symm
          have gy : ys.toList[i]? = some y := by
            have := List.getElem?_drop (xs := ys.toList) (i := i) (j := 0)
            rw [hy] at this
            simpa using this.symm
          have dx : xs.toList.drop (i + 1) = xr := by
            rw [← List.drop_drop, hx]; rfl
          have dy : ys.toList.drop (i + 1) = yr := by
            rw [← List.drop_drop, hy]; rfl
          rw [List.forIn_cons, arun_bind]
          simp only [cellsEq] at hce
          have hp : arun P (part f.type xs f.offset) σ = some (x, σ) := f_part1 h3 hd (by rw [h1]; exact gx)
          have hq : arun P (part f.type ys f.offset) σ = some (y, σ) := f_part1 h3 hd (by rw [h1]; exact gy)
          cases hl : leafEq k x y with
          | none => rw [hl] at hce; cases hce
          | some c =>
            rw [hl] at hce
            have he : arun P (Op.equalIn 9999 f.type x y) σ = some (c, σ) := equal_leaf h3 h4 hl
            cases c with
            | true =>
              have := ih (i + 1) r h5 (by rw [dx, dy]; exact hce)
              rw [if_pos h2, arun_bind, hp, Option.bind_some, arun_bind, hq, Option.bind_some, arun_bind, he, Option.bind_some]
              simp only [Bool.not_true, Bool.false_eq_true, if_false, arun_pure, Option.bind_some]
              exact this
            | false =>
              injection hce with hce
              subst hce
              rw [if_pos h2, arun_bind, hp, Option.bind_some, arun_bind, hq, Option.bind_some, arun_bind, he, Option.bind_some]
              rfl
  rw [key fs.toList 0 ks hk h, Option.bind_some]
  cases b <;> rfl
end Go.AM
namespace Go.AM
open Go

section
variable {P : Program} {σ : St}
theorem f_bound {x : Option Value} {d n y : Nat} {c : BoundsCode} {v : Value} (hx : x = some v) (h : fbound x d = some n) (hn : n ≤ y) : arun P (Instr.sliceBound v y c) σ = some (n, σ) := by
  subst hx
  cases v <;> simp only [fbound] at h <;> try (cases h; done)
  rename_i k i
  cases i with
  | negSucc m => cases h
  | ofNat m =>
    injection h with h
    subst h
    unfold Instr.sliceBound
    simp only [asIntOf, arun_bind, arun_pure, Option.bind_some]
    have h1 : (0 : Int) ≤ Int.ofNat m := by simp
    have h2 : Int.ofNat m ≤ (y : Int) := by simp; omega
    rw [if_pos ⟨h1, h2⟩]
    rfl
theorem f_bounds {b : Bool} {len cap : Nat} {lo hi : Option Value} {l h : Nat} (h1 : fbound hi len = some h) (h2 : fbound lo 0 = some l) (hh : h ≤ cap) (hl : l ≤ h) :
    arun P (Instr.sliceBounds b len cap lo hi none) σ = some ((l, h, cap), σ) := by
  unfold Instr.sliceBounds
  cases hi with
  | none =>
    injection h1 with h1
    subst h1
    cases lo with
    | none => injection h2 with h2; subst h2; simp only [arun_bind, arun_pure, Option.bind_some]
    | some v => simp only [arun_bind, arun_pure, Option.bind_some, f_bound rfl h2 hl]
  | some u =>
    cases lo with
    | none => injection h2 with h2; subst h2; simp only [arun_bind, arun_pure, Option.bind_some, f_bound rfl h1 hh]
    | some v => simp only [arun_bind, arun_pure, Option.bind_some, f_bound rfl h1 hh, f_bound rfl h2 hl]
theorem extract_bytes (s : ByteArray) (l h : Nat) : s.extract l h = bs ((s.data.toList.drop l).take (h - l)) := by
  apply ByteArray.ext
  apply Array.ext'
  simp
theorem f_sls {t : TypeId} (ht : P.underlying t = some .string) (s : ByteArray) {lo hi : Option Value} {l h : Nat} (h1 : fbound hi s.data.toList.length = some h) (h2 : fbound lo 0 = some l) (hh : h ≤ s.data.toList.length) (hl : l ≤ h) :
    arun P (Instr.sliceAt t (.string s) lo hi none) σ = some (.string (bs ((s.data.toList.drop l).take (h - l))), σ) := by
  rw [← size_bytes] at h1 hh
  unfold Instr.sliceAt
  rw [arun_bind, f_und ht, Option.bind_some]
  unfold Instr.slice
  simp only
  rw [arun_bind, f_und ht, Option.bind_some]
  simp only [Option.isSome_none, Bool.false_eq_true, if_false]
  simp only [arun_bind, f_bounds h1 h2 hh hl, Option.bind_some, arun_pure, extract_bytes]
theorem f_sll {t e : TypeId} (ht : P.underlying t = some (.slice e)) {sz : Nat} (hs : szOf P e = some sz) (a : Option Addr) {len cap : Nat} {lo hi : Option Value} {l h : Nat} (h1 : fbound hi len = some h) (h2 : fbound lo 0 = some l) (hh : h ≤ cap) (hl : l ≤ h) :
    arun P (Instr.sliceAt t (.slice a len cap) lo hi none) σ = some (.slice (if cap = l then a else a.map (·.add (l * sz))) (h - l) (cap - l), σ) := by
  unfold Instr.sliceAt
  rw [arun_bind, f_und ht, Option.bind_some]
  unfold Instr.slice
  simp only
  rw [arun_bind, f_und ht, Option.bind_some]
  simp only [arun_bind, f_bounds h1 h2 hh hl, Option.bind_some, arun_pure, f_size hs]
end

/-! ### Where the values of the temporaries stand -/
def Ag (m : LM) (d : Nat) (env ρ : List Value) : Prop :=
  ρ.length = d ∧ ∀ t lv, m.lookup t = some lv → (∀ n, lv = .l n → n < d) ∧ env.getD t undef = (lv.src d).ev ρ

theorem lookup_cons {α : Type} (t s : Nat) (v : α) (m : List (Nat × α)) : List.lookup t ((s, v) :: m) = if t = s then some v else m.lookup t := by
  by_cases h : t = s
  · subst h; simp
  · have : (t == s) = false := by simpa using h
    simp [List.lookup, this, h]
theorem src_push {d n : Nat} (h : n < d) (v : Value) (ρ : List Value) : ((Lv.l n).src (d + 1)).ev (v :: ρ) = ((Lv.l n).src d).ev ρ := by
  show rget (v :: ρ) (d + 1 - 1 - n) = rget ρ (d - 1 - n)
  have : d + 1 - 1 - n = (d - 1 - n) + 1 := by omega
  rw [this]
  rfl
theorem Ag.push {m : LM} {d : Nat} {env ρ : List Value} (h : Ag m d env ρ) (v : Value) : Ag m (d + 1) env (v :: ρ) := by
  refine ⟨by simp [h.1], fun t lv hl => ?_⟩
  obtain ⟨h1, h2⟩ := h.2 t lv hl
  cases lv with
  | l n =>
    have hn := h1 n rfl
    exact ⟨fun k hk => by injection hk with hk; omega, by rw [h2, src_push hn]⟩
  | c v => exact ⟨fun k hk => by (cases hk), h2⟩
theorem getD_set_eq {env : List Value} {t : Nat} (h : t < env.length) (v : Value) : (env.set t v).getD t undef = v := by
  simp [List.getD_eq_getElem?_getD, h]
theorem getD_set_ne {env : List Value} {t s : Nat} (h : s ≠ t) (v : Value) : (env.set t v).getD s undef = env.getD s undef := by
  simp only [List.getD_eq_getElem?_getD, List.getElem?_set_ne (Ne.symm h)]
theorem Ag.alias {m : LM} {d : Nat} {env ρ : List Value} (h : Ag m d env ρ) {t : Nat} (ht : t < env.length) {lv : Lv} (h1 : ∀ n, lv = .l n → n < d) {v : Value} (h2 : v = (lv.src d).ev ρ) : Ag ((t, lv) :: m) d (env.set t v) ρ := by
  refine ⟨h.1, fun s lv' hl => ?_⟩
  rw [lookup_cons] at hl
  split at hl
  · rename_i e
    injection hl with hl
    subst e hl
    exact ⟨h1, by rw [getD_set_eq ht, h2]⟩
  · rename_i e
    rw [getD_set_ne e]
    exact h.2 s lv' hl
theorem Ag.set {m : LM} {d : Nat} {env ρ : List Value} (h : Ag m d env ρ) {t : Nat} (ht : t < env.length) (v : Value) : Ag ((t, .l d) :: m) (d + 1) (env.set t v) (v :: ρ) := by
  refine (h.push v).alias ht (fun n hn => by injection hn with hn; omega) ?_
  show v = rget (v :: ρ) (d + 1 - 1 - d)
  have : d + 1 - 1 - d = 0 := by omega
  rw [this]
  rfl

section
variable {P : Program} {G : Cfg} {m : LM} {d : Nat} {env ρ : List Value}
theorem lv_ev (h : Ag m d env ρ) {x : Operand} {lv : Lv} (hx : lvOf G m x = some lv) : (∀ n, lv = .l n → n < d) ∧ ev G env x = (lv.src d).ev ρ := by
  cases x with
  | tmp t => exact h.2 t lv hx
  | const v => injection hx with hx; subst hx; exact ⟨fun n hn => by (cases hn), rfl⟩
  | global g =>
    simp only [lvOf, Option.map_eq_some_iff] at hx
    obtain ⟨k, hk, hx⟩ := hx
    subst hx
    exact ⟨fun n hn => by (cases hn), by simp [ev, hk, Lv.src, Src.ev]⟩
  | func f => injection hx with hx; subst hx; exact ⟨fun n hn => by (cases hn), rfl⟩
theorem src_ev (h : Ag m d env ρ) {x : Operand} {s : Src} (hx : srcOf G m d x = some s) : ev G env x = s.ev ρ := by
  unfold srcOf at hx
  rw [Option.map_eq_some_iff] at hx
  obtain ⟨lv, h1, h2⟩ := hx
  subst h2
  exact (lv_ev h h1).2
theorem srcs_ev (h : Ag m d env ρ) : ∀ {l : List Operand} {r : List Src}, srcs G m d l = some r → l.map (ev G env) = r.map (·.ev ρ) := by
  intro l
  induction l with
  | nil => intro r hr; injection hr with hr; subst hr; rfl
  | cons x l ih =>
    intro r hr
    simp only [srcs] at hr
    split at hr
    · rename_i s r' h1 h2
      injection hr with hr
      subst hr
      simp only [List.map_cons, src_ev h h1, ih h2]
    · cases hr
theorem srcO_ev (h : Ag m d env ρ) {x : Option Operand} {s : Option Src} (hx : srcO G m d x = some s) : x.map (ev G env) = s.map (·.ev ρ) := by
  cases x with
  | none => injection hx with hx; subst hx; rfl
  | some x =>
    simp only [srcO, Option.map_eq_some_iff] at hx
    obtain ⟨s', h1, h2⟩ := hx
    subst h2
    simp only [Option.map_some, src_ev h h1]
theorem rawMap_look (l : List Operand) {r : List (Tmp × Src)} (hr : rawMap G m d l = some r) {t : Tmp} (ht : Operand.tmp t ∈ l) : ∃ v, m.lookup t = some v ∧ r.lookup t = some (v.src d) := by
  induction l generalizing r with
  | nil => cases ht
  | cons x l ih =>
    cases x with
    | tmp s =>
      simp only [rawMap] at hr
      split at hr
      · rename_i v r' h1 h2
        injection hr with hr
        subst hr
        by_cases e : t = s
        · subst e
          exact ⟨v, h1, by simp⟩
        · obtain ⟨v', h3, h4⟩ := ih h2 (by simpa [e] using ht)
          exact ⟨v', h3, by rw [lookup_cons, if_neg e]; exact h4⟩
      · cases hr
    | _ =>
      simp only [rawMap] at hr
      exact ih hr (by simpa using ht)
theorem raw_ev (h : Ag m d env ρ) {l : List Operand} {r : List (Tmp × Src)} (hr : rawMap G m d l = some r) : ∀ x ∈ l, rawEnv G.gl r ρ x = ev G env x := by
  intro x hx
  cases x with
  | tmp t =>
    obtain ⟨v, h1, h2⟩ := rawMap_look l hr hx
    simp only [rawEnv, h2]
    exact ((h.2 t v h1).2).symm
  | _ => rfl
end
end Go.AM
namespace Go.AM
open Go

section
variable {P : Program} {G : Cfg} {m : LM} {d : Nat} {env ρ : List Value} {σ : St} {cF cA : ACall}

/-- A value is what an operation gives. -/
def Val (P : Program) (G : Cfg) (env : List Value) (o : Oper) (σ : St) (r : AEnd × St) : Prop := ∃ v, r.1 = .ret v ∧ aop P (ev G env) o σ = some (.value v, r.2)
def Skp (P : Program) (G : Cfg) (env : List Value) (o : Oper) (σ : St) (r : AEnd × St) : Prop := r.1 = .ret undef ∧ aop P (ev G env) o σ = some (.skip, r.2)

theorem fraw_mono {x : Option (ANext × St)} {r : AEnd × St} (hc : ∀ f a σ r, cF f a σ = some r → cA f a σ = some r) (h : fraw cF x = some r) : fraw cA x = some r := by
  cases x with
  | none => cases h
  | some y =>
    obtain ⟨n, s⟩ := y
    cases n <;> first | exact h | exact hc _ _ _ _ h
theorem raw_aop (h : Ag m d env ρ) {o : Oper} {r : List (Tmp × Src)} (hr : rawMap G m d o.op.operands.toList = some r) : aop P (rawEnv G.gl r ρ) ⟨none, o.op, o.type, "", #[], none⟩ σ = aop P (ev G env) o σ :=
  (aop_congr ⟨none, o.op, o.type, "", #[], none⟩ σ fun x hx => raw_ev h hr x (by simpa using hx)).trans (by obtain ⟨a, b, c, d, e, f⟩ := o; rfl)
theorem raw_uOk (h : Ag m d env ρ) {o : Oper} {r : List (Tmp × Src)} (hr : rawMap G m d o.op.operands.toList = some r) : uOk P (rawEnv G.gl r ρ) o.op = uOk P (ev G env) o.op :=
  uOk_congr o.op fun x hx => raw_ev h hr x (by simpa using hx)

/-- What is known of an operation that was done. -/
def Did (P : Program) (G : Cfg) (cA : ACall) (env : List Value) (o : Oper) (u : Bool) (σ : St) (r : AEnd × St) : Prop :=
  if u = true then uOk P (ev G env) o.op = true ∧ ∃ v s, r = (.ret v, σ) ∧ aop P (ev G env) o σ = some (.value v, s)
  else fraw cA (aop P (ev G env) o σ) = some r

theorem did_raw (h : Ag m d env ρ) (hc : ∀ f a σ r, cF f a σ = some r → cA f a σ = some r) {u : Bool} {o : Oper} {fo : FOp} (hr : mkRaw G m d u o = some fo) {r : AEnd × St} (hf : fop P G.gl cF ρ σ fo = some r) : Did P G cA env o u σ r := by
  unfold mkRaw at hr
  rw [Option.map_eq_some_iff] at hr
  obtain ⟨mm, h1, h2⟩ := hr
  subst h2
  unfold Did
  cases u with
  | true =>
    simp only [fop, raw_uOk h h1, raw_aop h h1] at hf
    rw [if_pos rfl]
    split at hf
    · rename_i hu
      refine ⟨hu, ?_⟩
      split at hf
      · rename_i v s hv
        injection hf with hf
        exact ⟨v, s, hf.symm, hv⟩
      · cases hf
    · cases hf
  | false =>
    simp only [fop, raw_aop h h1] at hf
    rw [if_neg (by decide)]
    exact fraw_mono hc hf

/-- The operation gives this value and changes nothing. -/
theorem did_val {u : Bool} {o : Oper} {v : Value} {s : St} (hu : u = true → uOk P (ev G env) o.op = true) (hs : s = σ) (h : aop P (ev G env) o σ = some (.value v, s)) : Did P G cA env o u σ (.ret v, s) := by
  subst hs
  unfold Did
  split
  · rename_i e; exact ⟨hu e, v, s, rfl, h⟩
  · rw [h]; rfl
theorem did_new {o : Oper} {u : Bool} (hu : u = false) {v : Value} {s : St} (h : aop P (ev G env) o σ = some (.value v, s)) : Did P G cA env o u σ (.ret v, s) := by
  subst hu
  unfold Did
  rw [if_neg (by decide), h]; rfl
theorem did_skip {o : Oper} {u : Bool} (hu : u = false) {s : St} (h : aop P (ev G env) o σ = some (.skip, s)) : Did P G cA env o u σ (.ret undef, s) := by
  subst hu
  unfold Did
  rw [if_neg (by decide), h]; rfl

theorem fv_some {v : Value} {r : AEnd × St} (h : fv v σ = some r) : r = (.ret v, σ) := by injection h with h; exact h.symm
theorem vmap_some {x : Option (Value × St)} {v : Value} {s : St} (h : x = some (v, s)) : vmap x = some (.value v, s) := by subst h; rfl
theorem umap_some {x : Option (Unit × St)} {s : St} (h : x = some ((), s)) : umap x = some (.skip, s) := by subst h; rfl

theorem fbin_basic {op : BinOp} {a b v : Value} (h : fbin op a b = some v) : (∃ k x k' y, a = .int k x ∧ b = .int k' y ∧ fint op k k' x y = some v) ∨ (∃ x y, a = .string x ∧ b = .string y ∧ fstr op x.data.toList y.data.toList = some v) := by
  unfold fbin at h
  split at h
  · exact .inl ⟨_, _, _, _, rfl, rfl, h⟩
  · exact .inr ⟨_, _, rfl, rfl, h⟩
  · cases h
theorem f_bin {op : BinOp} {t : TypeId} {a b v : Value} (h : fbin op a b = some v) (xo yo : Operand) :
    simpleBin a b = true ∧ binOk op a b = true ∧ guardOk P t a b = true ∧ arun P (do eqGuard op t xo yo a b; binOp op t a b) σ = some (v, σ) := by
  rw [arun_bind]
  rcases fbin_basic h with ⟨k, x, k', y, rfl, rfl, h⟩ | ⟨x, y, rfl, rfl, h⟩
  · refine ⟨rfl, rfl, rfl, ?_⟩
    have e : arun P (eqGuard op t xo yo (.int k x) (.int k' y)) σ = some ((), σ) := by unfold eqGuard; cases op <;> rfl
    rw [e, Option.bind_some]
    exact bin_op op t k k' x y h
  · refine ⟨rfl, rfl, rfl, ?_⟩
    have e : arun P (eqGuard op t xo yo (.string x) (.string y)) σ = some ((), σ) := by unfold eqGuard; cases op <;> rfl
    rw [e, Option.bind_some]
    exact bin_str op t x y h

theorem args_one {l : List Operand} {x : Operand} {a : Array Operand} (h : a.toList = [x]) : a = #[x] := Array.ext' h

theorem resOp_did (h : Ag m d env ρ) (hc : ∀ f a σ r, cF f a σ = some r → cA f a σ = some r) {u : Bool} {o : Oper} (hk : u = true → kd o.op = .u) {fo : FOp} (hr : resOp P G m d u o = some fo) {r : AEnd × St} (hf : fop P G.gl cF ρ σ fo = some r) :
    Did P G cA env o u σ r := by
  obtain ⟨dst, op, ty, pos, af, gd⟩ := o
  have hn : ∀ {k : Kd}, k ≠ .u → kd op = k → u = false := fun hne he => by
    cases u with
    | false => rfl
    | true => exact absurd ((hk rfl).symm.trans he) (Ne.symm hne)
  unfold resOp at hr
  simp only at hr
  split at hr
  -- move, assign
  · rw [Option.map_eq_some_iff] at hr
    obtain ⟨s, h1, h2⟩ := hr
    subst h2
    obtain rfl := fv_some hf
    exact did_val (fun _ => rfl) rfl (by simp only [aop, src_ev h h1])
  · rw [Option.map_eq_some_iff] at hr
    obtain ⟨s, h1, h2⟩ := hr
    subst h2
    obtain rfl := fv_some hf
    exact did_val (fun _ => rfl) rfl (by simp only [aop, src_ev h h1])
  -- pick
  · split at hr
    · rename_i c' a' b' h1 h2 h3
      injection hr with hr
      subst hr
      simp only [fop] at hf
      split at hf
      · rename_i t ht
        obtain rfl := fv_some hf
        exact did_val (fun _ => rfl) rfl (by simp only [aop, src_ev h h1, src_ev h h2, src_ev h h3, ht])
      · cases hf
    · cases hr
  -- alloc
  · split at hr
    · rename_i z hz
      split at hr
      · rename_i hc1
        rw [Bool.and_eq_true] at hc1
        injection hr with hr
        subst hr
        injection hf with hf
        subst hf
        exact did_new (hn (k := .a) (by decide) rfl) (by simp only [aop, hc1.2, if_true]; exact vmap_some (f_alloc hz hc1.1))
      · cases hr
    · cases hr
  -- box
  · rw [Option.map_eq_some_iff] at hr
    obtain ⟨s, h1, h2⟩ := hr
    subst h2
    simp only [fop] at hf
    split at hf
    · rename_i hall
      injection hf with hf
      subst hf
      rw [← src_ev h h1] at hall
      exact did_new (hn (k := .n) (by decide) rfl) (by simp only [aop, ← src_ev h h1]; exact vmap_some (f_box hall))
    · cases hf
  -- load
  · split at hr
    · rename_i dd n x' h1 h2 h3
      split at hr
      · rename_i hd
        injection hr with hr
        subst hr
        simp only [fop] at hf
        split at hf
        · rename_i b o hx
          rw [Option.map_eq_some_iff] at hf
          obtain ⟨l, hl, hf⟩ := hf
          subst hf
          exact did_val (fun _ => rfl) rfl (by simp only [aop, src_ev h h3, hx, f_loadAt]; exact vmap_some (f_loadA h1 hd h2 hl))
        · cases hf
      · rename_i hd
        injection hr with hr
        subst hr
        simp only [fop] at hf
        split at hf
        · rename_i a hx
          rw [Option.map_eq_some_iff] at hf
          obtain ⟨v, hl, hf⟩ := hf
          subst hf
          exact did_val (fun _ => rfl) rfl (by simp only [aop, src_ev h h3, hx, f_loadAt]; exact vmap_some (f_load1 h1 (by simpa using hd) hl))
        · cases hf
    · cases hr
  -- store
  · split at hr
    · rename_i n x' v' h1 h2 h3
      injection hr with hr
      subst hr
      simp only [fop] at hf
      split at hf
      · rename_i a hx
        split at hf
        · rename_i hv
          rw [Option.map_eq_some_iff] at hf
          obtain ⟨s, hs, hf⟩ := hf
          subst hf
          rw [← src_ev h h3] at hv hs
          exact did_skip (hn (k := .n) (by decide) rfl) (by simp only [aop, src_ev h h2, hx]; exact umap_some (f_store h1 hv hs))
        · cases hf
      · cases hf
    · cases hr
  -- fieldAddr
  · split at hr
    · rename_i fs x' h1 h2
      split at hr
      · rename_i f hf1
        split at hr
        · rename_i sz hsz
          split at hr
          · exact did_raw h hc hr hf
          · rename_i h0
            injection hr with hr
            subst hr
            simp only [fop] at hf
            split at hf
            · rename_i a hx
              obtain rfl := fv_some hf
              exact did_val (fun _ => rfl) rfl (by simp only [aop, src_ev h h2, hx]; exact vmap_some (f_field h1 hf1 hsz h0 a))
            · cases hf
        · cases hr
      · cases hr
    · cases hr
  -- field
  · split at hr
    · rename_i fs x' h1 h2
      split at hr
      · rename_i f hf1
        split at hr
        · rename_i dd sz hdd hsz
          split at hr
          · rename_i hd
            injection hr with hr
            subst hr
            simp only [fop] at hf
            split at hf
            · rename_i cs hx
              obtain rfl := fv_some hf
              exact did_val (fun _ => rfl) rfl (by simp only [aop, src_ev h h2, hx, f_fld h1 hf1]; exact vmap_some (f_partA hdd hd hsz cs f.offset))
            · cases hf
          · rename_i hd
            injection hr with hr
            subst hr
            simp only [fop] at hf
            split at hf
            · rename_i cs hx
              rw [Option.map_eq_some_iff] at hf
              obtain ⟨v, hv, hf⟩ := hf
              subst hf
              exact did_val (fun _ => rfl) rfl (by simp only [aop, src_ev h h2, hx, f_fld h1 hf1]; exact vmap_some (f_part1 hdd (by simpa using hd) hv))
            · cases hf
        · cases hr
      · cases hr
    · cases hr
  -- indexAddr
  · split at hr
    · rename_i e x' i' h1 h2 h3
      rw [Option.map_eq_some_iff] at hr
      obtain ⟨sz, hsz, hr⟩ := hr
      subst hr
      simp only [fop] at hf
      split at hf
      · rename_i a len cap k j hx hi
        rw [Option.map_eq_some_iff] at hf
        obtain ⟨i, hj, hf⟩ := hf
        subst hf
        exact did_val (fun _ => rfl) rfl (by simp only [aop, src_ev h h2, src_ev h h3, hx, hi]; exact vmap_some (f_iad h1 hsz a len _ _ hj))
      · cases hf
    · rename_i n e x' i' h1 h2 h3
      rw [Option.map_eq_some_iff] at hr
      obtain ⟨sz, hsz, hr⟩ := hr
      subst hr
      simp only [fop] at hf
      split at hf
      · rename_i a k j hx hi
        rw [Option.map_eq_some_iff] at hf
        obtain ⟨i, hj, hf⟩ := hf
        subst hf
        exact did_val (fun _ => rfl) rfl (by simp only [aop, src_ev h h2, src_ev h h3, hx, hi]; exact vmap_some (f_iada h1 hsz a _ hj))
      · cases hf
    · cases hr
  -- index
  · split at hr
    · rename_i x' i' h1 h2 h3
      injection hr with hr
      subst hr
      simp only [fop] at hf
      split at hf
      · rename_i s k j hx hi
        rw [Option.map_eq_some_iff] at hf
        obtain ⟨b, hb, hf⟩ := hf
        subst hf
        exact did_val (fun _ => rfl) rfl (by simp only [aop, src_ev h h2, src_ev h h3, hx, hi]; exact vmap_some (f_ixs h1 s _ (by simp) hb))
      · cases hf
    · exact did_raw h hc hr hf
  -- binOp
  · rename_i op0 t0 x0 y0 yt0
    split at hr
    · split at hr
      · rename_i x' y' h2 h3
        injection hr with hr
        subst hr
        simp only [fop] at hf
        rw [Option.map_eq_some_iff] at hf
        obtain ⟨v, hv, hf⟩ := hf
        subst hf
        rw [← src_ev h h2, ← src_ev h h3] at hv
        have hb := fun xo yo t => f_bin (P := P) (σ := σ) (t := t) hv xo yo
        exact did_val (fun _ => (hb default default 0).1) rfl (by
          simp only [aop, (hb default default 0).2.1, (hb default default _).2.2.1, Bool.and_self, if_true]
          exact vmap_some (hb _ _ _).2.2.2)
      · cases hr
    · split at hr
      · rename_i neg x' y' hn ht h2 h3
        injection hr with hr
        subst hr
        simp only [fop] at hf
        split at hf
        · rename_i a b hx hy
          obtain rfl := fv_some hf
          have hbt : P.underlying t0 = some .bool := by
            unfold boolT at ht
            split at ht
            · rename_i e; exact e
            · cases ht
          have he := equal_bool (P := P) (σ := σ) (n := 9999) hbt a b
          have ho := bin_eq (P := P) (σ := σ) hn (.inl ⟨a, rfl⟩) (.inl ⟨b, rfl⟩) he
          have hbo : binOk op0 (.bool a) (.bool b) = true := by rcases neg_op hn with ⟨rfl, rfl⟩ | ⟨rfl, rfl⟩ <;> rfl
          exact did_val (fun _ => by simp only [uOk, src_ev h h2, src_ev h h3, hx, hy, simpleBin]) rfl (by
            simp only [aop, src_ev h h2, src_ev h h3, hx, hy, hbo, guardOk, Bool.and_self, if_true]
            refine vmap_some ?_
            exact ((guard_quiet _ _ _ _ hbo rfl _).1 σ).trans ho)
        · cases hf
      · rename_i neg ks x' y' hn hb hks h2 h3
        injection hr with hr
        subst hr
        simp only [fop] at hf
        split at hf
        · rename_i xs ys hx hy
          rw [Option.map_eq_some_iff] at hf
          obtain ⟨b, hb', hf⟩ := hf
          subst hf
          obtain ⟨g1, g2, g3⟩ := equal_struct (P := P) (σ := σ) hks hb'
          have ho := bin_eq (P := P) (σ := σ) hn (.inr ⟨xs, rfl⟩) (.inr ⟨ys, rfl⟩) g3
          have hbo : binOk op0 (.agg xs) (.agg ys) = true := by rcases neg_op hn with ⟨rfl, rfl⟩ | ⟨rfl, rfl⟩ <;> rfl
          exact did_val (fun _ => by simp only [uOk, src_ev h h2, src_ev h h3, hx, hy, simpleBin]) rfl (by
            simp only [aop, src_ev h h2, src_ev h h3, hx, hy, hbo, g1, Bool.and_self, if_true]
            refine vmap_some ?_
            exact ((guard_quiet _ _ _ _ hbo g1 _).1 σ).trans ho)
        · cases hf
      · exact did_raw h hc hr hf
  -- not
  · rw [Option.map_eq_some_iff] at hr
    obtain ⟨s, h1, h2⟩ := hr
    subst h2
    simp only [fop] at hf
    split at hf
    · rename_i b hx
      obtain rfl := fv_some hf
      exact did_val (fun _ => rfl) rfl (by simp only [aop, src_ev h h1, hx, unOk, if_true]; rfl)
    · cases hf
  -- convert
  · rename_i s0 d0 x0
    split at hr
    · rename_i k0 k x' h1 h2 h3
      injection hr with hr
      subst hr
      simp only [fop] at hf
      split at hf
      · rename_i k1 n hx
        obtain rfl := fv_some hf
        have ho : convOk P s0 d0 (Value.int k1 n) = true := by simp only [convOk, h1, h2]
        exact did_val (fun _ => by simp only [uOk, src_ev h h3, hx]; exact ho) rfl (by
          simp only [aop, src_ev h h3, hx, ho, if_true]
          refine vmap_some ?_
          unfold convert
          rw [arun_bind, f_und h1, Option.bind_some, arun_bind, f_und h2, Option.bind_some, fwrap_eq]
          rfl)
      · cases hf
    · rename_i x' h1 h2 h3
      injection hr with hr
      subst hr
      simp only [fop] at hf
      split at hf
      · rename_i s hx
        obtain rfl := fv_some hf
        have ho : convOk P s0 d0 (Value.string s) = true := by simp only [convOk, h1, h2]
        exact did_val (fun _ => by simp only [uOk, src_ev h h3, hx]; exact ho) rfl (by
          simp only [aop, src_ev h h3, hx, ho, if_true]
          refine vmap_some ?_
          unfold convert
          rw [arun_bind, f_und h1, Option.bind_some, arun_bind, f_und h2, Option.bind_some]
          rfl)
      · cases hf
    · exact did_raw h hc hr hf
  -- slice
  · rename_i t0 x0 lo0 hi0
    split at hr
    · rename_i x' lo' hi' h1 h2 h3 h4
      injection hr with hr
      subst hr
      simp only [fop] at hf
      split at hf
      · rename_i s hx
        split at hf
        · rename_i hh ll e1 e2
          split at hf
          · rename_i hle
            obtain rfl := fv_some hf
            rw [← srcO_ev h h3] at e2
            rw [← srcO_ev h h4] at e1
            exact did_val (fun _ => rfl) rfl (by
              simp only [aop, src_ev h h2, hx, sliceOk, if_true]
              exact vmap_some (f_sls h1 s e1 e2 hle.1 hle.2))
          · cases hf
        · cases hf
      · cases hf
    · rename_i e x' lo' hi' h1 h2 h3 h4
      rw [Option.map_eq_some_iff] at hr
      obtain ⟨sz, hsz, hr⟩ := hr
      subst hr
      simp only [fop] at hf
      split at hf
      · rename_i a len cap hx
        split at hf
        · rename_i hh ll e1 e2
          split at hf
          · rename_i hle
            split at hf
            · rename_i hok
              obtain rfl := fv_some hf
              rw [← srcO_ev h h3] at e2
              rw [← srcO_ev h h4] at e1
              have hok' : sliceOk P σ t0 (.slice a len cap) = true := by
                unfold sliceOk
                cases a with
                | none => rfl
                | some b =>
                  simp only [sllOk] at hok ⊢
                  rw [h1]
                  split at hok
                  · rename_i hg
                    rw [hg]
                    exact hok
                  · cases hok
              exact did_val (fun _ => rfl) rfl (by
                simp only [aop, src_ev h h2, hx, hok', if_true]
                exact vmap_some (f_sll h1 hsz a e1 e2 hle.1 hle.2))
            · cases hf
          · cases hf
        · cases hf
      · cases hf
    · exact did_raw h hc hr hf
  -- nilCheck
  · rw [Option.map_eq_some_iff] at hr
    obtain ⟨s, h1, h2⟩ := hr
    subst h2
    simp only [fop] at hf
    split at hf
    · rename_i a hx
      obtain rfl := fv_some hf
      exact did_val (fun _ => rfl) rfl (by simp only [aop, src_ev h h1, hx])
    · cases hf
  -- extract
  · rw [Option.map_eq_some_iff] at hr
    obtain ⟨s, h1, h2⟩ := hr
    subst h2
    simp only [fop] at hf
    split at hf
    · rename_i vs hx
      rw [Option.map_eq_some_iff] at hf
      obtain ⟨v, hv, hf⟩ := hf
      subst hf
      exact did_val (fun _ => rfl) rfl (by simp only [aop, src_ev h h1, hx]; exact vmap_some (f_ext hv))
    · cases hf
  -- makeInterface
  · split at hr
    · cases hr
    · cases hr
    · rename_i dd hni hd
      rw [Option.map_eq_some_iff] at hr
      obtain ⟨s, h1, h2⟩ := hr
      subst h2
      obtain rfl := fv_some hf
      exact did_val (fun _ => rfl) rfl (by simp only [aop, ← src_ev h h1]; exact vmap_some (f_mki hd (fun ms e => hni ms e) _))
  -- call
  · rename_i c
    split at hr
    · rename_i g hcal
      split at hr
      · rename_i hb
        rw [Option.map_eq_some_iff] at hr
        obtain ⟨l, h1, h2⟩ := hr
        subst h2
        have hu : u = false := by
          cases u with
          | false => rfl
          | true =>
            have := hk rfl
            obtain ⟨cal, as, ats⟩ := c
            simp only at hcal
            subst hcal
            cases this
        subst hu
        unfold Did
        rw [if_neg (by decide)]
        simp only [fop] at hf
        have := hc _ _ _ _ hf
        simp only [aop, acallee, hcal, ev, hb, if_true, fraw]
        rw [← this]
        congr 1
        simp [← srcs_ev h h1]
      · exact did_raw h hc hr hf
    · rename_i hcal
      split at hr
      · rename_i t x ht hx
        split at hr
        · rename_i x' h1 h2
          injection hr with hr
          subst hr
          simp only [fop] at hf
          obtain ⟨cal, as, ats⟩ := c
          simp only at hcal hx ht
          subst hcal
          split at hf
          · rename_i s hs
            obtain rfl := fv_some hf
            exact did_val (fun _ => rfl) rfl (by
              simp only [aop, acallee, Array.toList_map, hx, List.map_cons, List.map_nil, src_ev h h2, hs]
              exact vmap_some (f_lenS h1 ats ht _ s))
          · cases hf
        · rename_i e x' h1 h2
          injection hr with hr
          subst hr
          simp only [fop] at hf
          obtain ⟨cal, as, ats⟩ := c
          simp only at hcal hx ht
          subst hcal
          split at hf
          · rename_i a n cp hs
            obtain rfl := fv_some hf
            exact did_val (fun _ => rfl) rfl (by
              simp only [aop, acallee, Array.toList_map, hx, List.map_cons, List.map_nil, src_ev h h2, hs]
              exact vmap_some (f_lenL h1 ats ht _ a n cp))
          · cases hf
        · exact did_raw h hc hr hf
      · exact did_raw h hc hr hf
    · exact did_raw h hc hr hf
  · exact did_raw h hc hr hf
end
end Go.AM
namespace Go.AM
open Go

section
variable {P : Program} {G : Cfg} {N : Nat} {ops : Array Oper} {m : LM} {d : Nat} {env ρ : List Value} {σ : St} {cF cA : ACall}

theorem guard_ok (h : Ag m d env ρ) {o : Oper} {g : Option (Src × Bool)} (hg : guardOf ops m d o = some g) : Region.wanted o (ayield ops env) = gok ρ g := by
  unfold guardOf at hg
  unfold Region.wanted
  cases ho : o.guard with
  | none =>
    rw [ho] at hg
    injection hg with hg
    subst hg
    rfl
  | some jw =>
    obtain ⟨j, want⟩ := jw
    rw [ho] at hg
    simp only at hg
    split at hg
    · rename_i t ht
      rw [Option.map_eq_some_iff] at hg
      obtain ⟨lv, h1, h2⟩ := hg
      subst h2
      have h3 := (h.2 t lv h1).2
      simp only [gok, ← h3]
      have ht' : (ops[j]?).bind (·.dst) = some t := by simpa using ht
      unfold ayield
      rw [ht', Option.bind_some, List.getD_eq_getElem?_getD]
      cases env[t]? with
      | none => rfl
      | some v => cases v <;> first | rfl | (simp; done)
    · cases hg

theorem Ag.here (h : Ag m d env ρ) {t : Nat} {v : Value} (hv : env.getD t undef = v) : Ag ((t, .l d) :: m) (d + 1) env (v :: ρ) := by
  have hp := h.push v
  refine ⟨hp.1, fun s lv hl => ?_⟩
  rw [lookup_cons] at hl
  split at hl
  · rename_i e
    injection hl with hl
    subst e hl
    refine ⟨fun n hn => by injection hn with hn; omega, ?_⟩
    show env.getD s undef = rget (v :: ρ) (d + 1 - 1 - d)
    have : d + 1 - 1 - d = 0 := by omega
    rw [this, hv]
    rfl
  · exact hp.2 s lv hl
theorem Ag.shuf (h : Ag m d env ρ) : ∀ {j : List Tmp} {l : List Src}, shufOf m d j = some l → Ag (mkM j).1 (mkM j).2 env (l.map (·.ev ρ)) := by
  intro j
  induction j with
  | nil => intro l hl; injection hl with hl; subst hl; exact ⟨rfl, fun t lv h => by cases h⟩
  | cons t j ih =>
    intro l hl
    simp only [shufOf] at hl
    split at hl
    · rename_i v r h1 h2
      injection hl with hl
      subst hl
      exact (ih h2).here (h.2 t v h1).2
    · cases hl

/-- One operation was done, and the rest goes on. -/
theorem lowOp_sound (h : Ag m d env ρ) (hN : env.length = N) (hc : ∀ f a σ r, cF f a σ = some r → cA f a σ = some r) {u : Bool} {o : Oper} (hk : u = true → kd o.op = .u) {fis : List FI} {m1 : LM} {d1 : Nat}
    (hl : lowOp P G N ops u m d o = some (fis, m1, d1)) {k : List FI} {r : FO × St} (hf : fops P G.gl cF (fis ++ k) ρ σ = some r) :
    (Region.wanted o (ayield ops env) = true ∧ ∃ v σ1 ρ1, Did P G cA env o u σ (.ret v, σ1) ∧ Ag m1 d1 (aput o.dst v env) ρ1 ∧ fops P G.gl cF k ρ1 σ1 = some r) ∨
    (Region.wanted o (ayield ops env) = true ∧ ∃ v σ1, Did P G cA env o u σ (.panic v, σ1) ∧ r = (.pan v, σ1)) ∨
    (Region.wanted o (ayield ops env) = false ∧ ∃ ρ1, Ag m1 d1 (aput o.dst undef env) ρ1 ∧ fops P G.gl cF k ρ1 σ = some r) := by
  have one : ∀ (g : Option (Src × Bool)) (fo : FOp) (p : Bool), guardOf ops m d o = some g → resOp P G m d u o = some fo → fops P G.gl cF (FI.op p g fo :: k) ρ σ = some r →
      (∀ v, Ag m1 d1 (aput o.dst v env) (if p then v :: ρ else ρ)) → 
      (Region.wanted o (ayield ops env) = true ∧ ∃ v σ1 ρ1, Did P G cA env o u σ (.ret v, σ1) ∧ Ag m1 d1 (aput o.dst v env) ρ1 ∧ fops P G.gl cF k ρ1 σ1 = some r) ∨
      (Region.wanted o (ayield ops env) = true ∧ ∃ v σ1, Did P G cA env o u σ (.panic v, σ1) ∧ r = (.pan v, σ1)) ∨
      (Region.wanted o (ayield ops env) = false ∧ ∃ ρ1, Ag m1 d1 (aput o.dst undef env) ρ1 ∧ fops P G.gl cF k ρ1 σ = some r) := by
    intro g fo p hg hfo hf ha
    have hw := guard_ok h hg
    simp only [fops] at hf
    split at hf
    · rename_i hgk
      rw [hw]
      split at hf
      · rename_i v σ1 hv
        exact .inl ⟨hgk, v, σ1, _, resOp_did h hc hk hfo hv, ha v, hf⟩
      · rename_i v σ1 hv
        injection hf with hf
        exact .inr (.inl ⟨hgk, v, σ1, resOp_did h hc hk hfo hv, hf.symm⟩)
      · cases hf
    · rename_i hgk
      rw [hw]
      exact .inr (.inr ⟨by simpa using hgk, _, ha undef, hf⟩)
  have alias : ∀ (x : Operand) (t : Tmp) (lv : Lv), guardOf ops m d o = some none → o.dst = some t → t < N → (o.op = .move x ∨ o.op = .assign x) → lvOf G m x = some lv → fops P G.gl cF k ρ σ = some r → m1 = (t, lv) :: m → d1 = d →
      Region.wanted o (ayield ops env) = true ∧ ∃ v σ1 ρ1, Did P G cA env o u σ (.ret v, σ1) ∧ Ag m1 d1 (aput o.dst v env) ρ1 ∧ fops P G.gl cF k ρ1 σ1 = some r := by
    intro x t lv hg hd ht ho hlv hf e1 e2
    subst e1 e2
    have hw := guard_ok h hg
    obtain ⟨h1, h2⟩ := lv_ev h hlv
    refine ⟨hw.trans rfl, ev G env x, σ, ρ, did_val (fun _ => ?_) rfl ?_, ?_, hf⟩
    · rcases ho with ho | ho <;> rw [ho] <;> rfl
    · rcases ho with ho | ho <;> simp only [aop, ho]
    · rw [hd]
      exact h.alias (by rw [hN]; exact ht) h1 h2
  unfold lowOp at hl
  split at hl
  · rename_i g t hg hd
    split at hl
    case isFalse => cases hl
    rename_i ht
    have push : ∀ v, Ag ((t, .l d) :: m) (d + 1) (aput o.dst v env) (v :: ρ) := fun v => by
      rw [hd]
      exact h.set (by rw [hN]; exact ht) v
    split at hl
    · rename_i x ho
      rw [Option.map_eq_some_iff] at hl
      obtain ⟨lv, h1, h2⟩ := hl
      injection h2 with h2 h3
      injection h3 with h3 h4
      subst h2
      exact .inl (alias x t lv hg hd ht (.inl ho) h1 hf h3.symm h4.symm)
    · rename_i x ho
      rw [Option.map_eq_some_iff] at hl
      obtain ⟨lv, h1, h2⟩ := hl
      injection h2 with h2 h3
      injection h3 with h3 h4
      subst h2
      exact .inl (alias x t lv hg hd ht (.inr ho) h1 hf h3.symm h4.symm)
    · rw [Option.map_eq_some_iff] at hl
      obtain ⟨fo, h1, h2⟩ := hl
      injection h2 with h2 h3
      injection h3 with h3 h4
      subst h2 h3 h4
      exact one _ fo true hg h1 hf push
  · rename_i g hg hd
    rw [Option.map_eq_some_iff] at hl
    obtain ⟨fo, h1, h2⟩ := hl
    injection h2 with h2 h3
    injection h3 with h3 h4
    subst h2 h3 h4
    exact one g fo false hg h1 hf fun v => by rw [hd]; exact h
  · cases hl

/-- How a lowered piece ends, against the piece. -/
def XR (P : Program) (rs : List ResultVar) (N : Nat) (ex : List (Nat × List Tmp)) (s' : Option (LM × Nat)) (x : ARes) : FO × St → Prop
  | (.nx ρ', σ') => ∃ env', x = some (.normal, env', σ') ∧ env'.length = N ∧ ∃ m' d', s' = some (m', d') ∧ Ag m' d' env' ρ'
  | (.ex id ρ', σ') => ∃ env', x = some (.exit id, env', σ') ∧ env'.length = N ∧ ∃ j, ex.lookup id = some j ∧ Ag (mkM j).1 (mkM j).2 env' ρ'
  | (.ret v, σ') => ∃ env', x = some (.ret, env', σ') ∧ ∃ l, aresults P env' σ' rs = some l ∧ tup l = v
  | (.pan v, σ') => ∃ env', x = some (.panic v, env', σ')

theorem aput_len (o : Option Tmp) (v : Value) (env : List Value) : (aput o v env).length = env.length := by cases o <;> simp [aput]

theorem aops_step {o : Oper} {l : List Oper} : aops P G cA ops (o :: l) env σ = if Region.wanted o (ayield ops env) then (match fraw cA (aop P (ev G env) o σ) with
    | some (.ret v, σ1) => aops P G cA ops l (aput o.dst v env) σ1
    | some (.panic v, σ1) => some (.panic v, env, σ1)
    | none => none) else aops P G cA ops l (aput o.dst undef env) σ := by
  rw [aops]
  split
  · cases aop P (ev G env) o σ with
    | none => rfl
    | some y =>
      obtain ⟨n, s⟩ := y
      cases n with
      | enter f args =>
        simp only [fraw]
        cases cA f args.toList s with
        | none => rfl
        | some z => obtain ⟨e, s2⟩ := z; cases e <;> rfl
      | _ => rfl
  · rfl

theorem lowOps_sound {rs : List ResultVar} {ex : List (Nat × List Tmp)} (hc : ∀ f a σ r, cF f a σ = some r → cA f a σ = some r) : ∀ (l : List Oper) {m : LM} {d : Nat} {env ρ : List Value} {σ : St}, Ag m d env ρ → env.length = N →
    ∀ {fis : List FI} {m1 : LM} {d1 : Nat}, lowOps P G N ops l m d = some (fis, m1, d1) → ∀ {r : FO × St}, fops P G.gl cF fis ρ σ = some r → XR P rs N ex (some (m1, d1)) (aops P G cA ops l env σ) r := by
  intro l
  induction l with
  | nil =>
    intro m d env ρ σ h hN fis m1 d1 hl r hf
    injection hl with hl
    injection hl with h1 h2
    injection h2 with h2 h3
    subst h1 h2 h3
    injection hf with hf
    subst hf
    exact ⟨env, rfl, hN, _, _, rfl, h⟩
  | cons o l ih =>
    intro m d env ρ σ h hN fis m1 d1 hl r hf
    simp only [lowOps] at hl
    split at hl
    · rename_i a m2 d2 h1
      split at hl
      · rename_i b m3 d3 h2
        injection hl with hl
        injection hl with e1 e2
        injection e2 with e2 e3
        subst e1 e2 e3
        rw [aops_step]
        rcases lowOp_sound h hN hc (fun e => by cases e) h1 hf with ⟨hw, v, σ1, ρ1, hd, ha, hk⟩ | ⟨hw, v, σ1, hd, hk⟩ | ⟨hw, ρ1, ha, hk⟩
        · have hd' : fraw cA (aop P (ev G env) o σ) = some (.ret v, σ1) := by simpa [Did] using hd
          rw [if_pos hw, hd']
          exact ih ha (by rw [aput_len, hN]) h2 hk
        · have hd' : fraw cA (aop P (ev G env) o σ) = some (.panic v, σ1) := by simpa [Did] using hd
          rw [if_pos hw, hd', hk]
          exact ⟨env, rfl⟩
        · rw [if_neg (by rw [hw]; decide)]
          exact ih ha (by rw [aput_len, hN]) h2 hk
      · cases hl
    · cases hl

theorem lowChk_sound (h : Ag m d env ρ) (hN : env.length = N) : ∀ (re : List Nat) {c k : List FI}, lowChk P G ops m d re = some c → ∀ {r : FO × St}, fops P G.gl cF (c ++ k) ρ σ = some r →
    arecheck P G ops env σ re = true ∧ fops P G.gl cF k ρ σ = some r := by
  intro re
  induction re with
  | nil =>
    intro c k hl r hf
    injection hl with hl
    subst hl
    exact ⟨rfl, hf⟩
  | cons i re ih =>
    intro c k hl r hf
    simp only [lowChk] at hl
    split at hl
    · rename_i o hi
      split at hl
      · rename_i g fo t c' hg hfo hd hc'
        split at hl
        case isFalse => cases hl
        rename_i hk
        rw [Option.map_eq_some_iff] at hl
        obtain ⟨lv, h1, h2⟩ := hl
        subst h2
        simp only [List.cons_append, fops] at hf
        split at hf
        case isFalse => cases hf
        rename_i hchk
        obtain ⟨h3, h4⟩ := ih hc' hf
        refine ⟨?_, h4⟩
        have hi' : ops[i]? = some o := by simpa using hi
        have hw := guard_ok h hg
        have ht := (h.2 t lv h1).2
        simp only [arecheck, hi', hw, h3, Bool.and_true]
        unfold fchk at hchk
        split at hchk
        · rename_i hgk
          rw [if_pos hgk]
          split at hchk
          · rename_i v s hv
            have hdid := resOp_did (cA := cF) h (fun _ _ _ _ h => h) (u := true) (fun _ => hk) hfo hv
            unfold Did at hdid
            rw [if_pos rfl] at hdid
            obtain ⟨hu, v', s', e1, e2⟩ := hdid
            injection e1 with e1 e3
            injection e1 with e1
            subst e1
            rw [hu, e2]
            simp only [Bool.true_and, hd, sameAt, ht, hchk, Bool.or_true]
          · cases hchk
        · rename_i hgk
          rw [if_neg hgk]
          simp only [hd, sameAt, ht, hchk, Bool.or_true]
      · cases hl
    · cases hl

theorem lowPlan_sound {rs : List ResultVar} {ex : List (Nat × List Tmp)} (hc : ∀ f a σ r, cF f a σ = some r → cA f a σ = some r) : ∀ (pl : List (Nat × List Nat)) {m : LM} {d : Nat} {env ρ : List Value} {σ : St}, Ag m d env ρ → env.length = N →
    ∀ {fis : List FI} {m1 : LM} {d1 : Nat}, lowPlan P G N ops pl m d = some (fis, m1, d1) → ∀ {r : FO × St}, fops P G.gl cF fis ρ σ = some r → XR P rs N ex (some (m1, d1)) (runPlan P G cA ops pl env σ) r := by
  intro pl
  induction pl with
  | nil =>
    intro m d env ρ σ h hN fis m1 d1 hl r hf
    injection hl with hl
    injection hl with h1 h2
    injection h2 with h2 h3
    subst h1 h2 h3
    injection hf with hf
    subst hf
    exact ⟨env, rfl, hN, _, _, rfl, h⟩
  | cons x pl ih =>
    obtain ⟨i, re⟩ := x
    intro m d env ρ σ h hN fis m1 d1 hl r hf
    simp only [lowPlan] at hl
    split at hl
    case h_2 => cases hl
    rename_i o hi
    have hi' : ops[i]? = some o := by simpa using hi
    split at hl
    case h_2 => cases hl
    rename_i a m2 d2 h1
    split at hl
    case h_2 => cases hl
    rename_i c b m3 d3 hcc h2
    injection hl with hl
    injection hl with e1 e2
    injection e2 with e2 e3
    subst e1 e2 e3
    rw [List.append_assoc] at hf
    simp only [runPlan, hi']
    rcases lowOp_sound h hN hc (fun e => by simpa using e) h1 hf with ⟨hw, v, σ1, ρ1, hd, ha, hk⟩ | ⟨hw, v, σ1, hd, hk⟩ | ⟨hw, ρ1, ha, hk⟩
    · rw [if_pos hw]
      by_cases hu : kd o.op = .u
      · rw [if_pos hu] at hcc
        injection hcc with hcc
        subst hcc
        simp only [Did, hu, decide_true, if_true] at hd
        obtain ⟨g1, v', s', g2, g3⟩ := hd
        injection g2 with g2 g4
        injection g2 with g2
        subst g2 g4
        simp only [hu, g1, g3, if_true]
        exact ih ha (by rw [aput_len, hN]) h2 hk
      · rw [if_neg hu] at hcc
        simp only [Did, hu, decide_false, Bool.false_eq_true, if_false] at hd
        obtain ⟨hre, hk⟩ := lowChk_sound ha (by rw [aput_len, hN]) re hcc hk
        have fin := ih ha (by rw [aput_len, hN]) h2 hk
        have hkd : kd o.op = .a ∨ kd o.op = .n := by
          cases hkd : kd o.op <;> simp_all
        rcases hkd with hkd | hkd <;> rw [hkd] <;> dsimp only
        all_goals
         cases hx : aop P (ev G env) o σ with
          | none => rw [hx] at hd; cases hd
          | some y =>
            obtain ⟨n, s⟩ := y
            rw [hx] at hd
            cases n with
            | value v' =>
              injection hd with hd
              injection hd with hd1 hd2
              injection hd1 with hd1
              subst hd1 hd2
              simp only [hre, if_true]
              exact fin
            | skip =>
              injection hd with hd
              injection hd with hd1 hd2
              injection hd1 with hd1
              subst hd1 hd2
              simp only [hre, if_true]
              exact fin
            | enter f args =>
              simp only [fraw] at hd
              simp only [hd, hre, if_true]
              exact fin
            | panic v' =>
              injection hd with hd
              injection hd with hd1 hd2
              cases hd1
    · rw [if_pos hw]
      by_cases hu : kd o.op = .u
      · simp only [Did, hu, decide_true, if_true] at hd
        obtain ⟨g1, v', s', g2, g3⟩ := hd
        injection g2 with g2 g4
        cases g2
      · simp only [Did, hu, decide_false, Bool.false_eq_true, if_false] at hd
        have hkd : kd o.op = .a ∨ kd o.op = .n := by
          cases hkd : kd o.op <;> simp_all
        rw [hk]
        rcases hkd with hkd | hkd <;> rw [hkd] <;> dsimp only
        all_goals
         cases hx : aop P (ev G env) o σ with
        | none => rw [hx] at hd; cases hd
        | some y =>
          obtain ⟨n, s⟩ := y
          rw [hx] at hd
          cases n with
          | value v' =>
            injection hd with hd
            injection hd with hd1 hd2
            cases hd1
          | skip =>
            injection hd with hd
            injection hd with hd1 hd2
            cases hd1
          | enter f args =>
            simp only [fraw] at hd
            simp only [hd]
            exact ⟨env, rfl⟩
          | panic v' =>
            injection hd with hd
            injection hd with hd1 hd2
            injection hd1 with hd1
            subst hd1 hd2
            exact ⟨env, rfl⟩
    · rw [if_neg (by rw [hw]; decide)]
      have hk' : fops P G.gl cF b ρ1 σ = some r := by
        by_cases hu : kd o.op = .u
        · rw [if_pos hu] at hcc
          injection hcc with hcc
          subst hcc
          exact hk
        · rw [if_neg hu] at hcc
          exact (lowChk_sound ha (by rw [aput_len, hN]) re hcc hk).2
      exact ih ha (by rw [aput_len, hN]) h2 hk'
end
end Go.AM
namespace Go.AM
open Go

theorem ev_gl {G G' : Cfg} (h : G'.gl = G.gl) : ev G' = ev G := by
  funext env x
  cases x <;> simp [ev, h]
theorem arecheck_gl {P : Program} {G G' : Cfg} (h : G'.gl = G.gl) (ops : Array Oper) (env : List Value) (σ : St) : ∀ l, arecheck P G' ops env σ l = arecheck P G ops env σ l := by
  intro l
  induction l with
  | nil => rfl
  | cons k l ih => simp only [arecheck, ev_gl h, ih]
theorem runPlan_gl {P : Program} {G G' : Cfg} (h : G'.gl = G.gl) (call : ACall) (ops : Array Oper) : ∀ (l : List (Nat × List Nat)) (env : List Value) (σ : St), runPlan P G' call ops l env σ = runPlan P G call ops l env σ := by
  intro l
  induction l with
  | nil => intro env σ; rfl
  | cons x l ih =>
    obtain ⟨i, re⟩ := x
    intro env σ
    simp only [runPlan, ev_gl h, arecheck_gl h, ih]
theorem adraw_gl {P : Program} {G G' : Cfg} (h : G'.gl = G.gl) (call : ACall) (ops : Array Oper) (env : List Value) (σ : St) : adraw G' P call ops env σ = adraw G P call ops env σ := by
  unfold adraw
  split
  · exact runPlan_gl h call ops _ env σ
  · rfl

section
variable {P : Program} {G : Cfg} {N n : Nat} {rs : List ResultVar} {cF cA : ACall}

theorem res_sound {m : LM} {d : Nat} {env ρ : List Value} {σ : St} (h : Ag m d env ρ) : ∀ {l : List ResultVar} {fl : List FRes}, resOf P m d l = some fl → ∀ {vs : List Value}, fresl ρ σ fl = some vs → aresults P env σ l = some vs := by
  intro l
  induction l with
  | nil => intro fl hl vs hv; injection hl with hl; subst hl; exact hv
  | cons r l ih =>
    intro fl hl vs hv
    cases r with
    | tmp t =>
      simp only [resOf] at hl
      split at hl
      case h_2 => cases hl
      rename_i lv fr h1 h2
      injection hl with hl
      subst hl
      simp only [fresl, fres] at hv
      simp only [aresults, aresult]
      split at hv
      case h_2 => cases hv
      rename_i v ws e1 e2
      injection e1 with e1
      rw [ih h2 e2, (h.2 t lv h1).2, e1]
      exact hv
    | cell t ty =>
      simp only [resOf] at hl
      split at hl
      case h_2 => cases hl
      rename_i lv fr dd nn h1 h2 h3 h4
      injection hl with hl
      subst hl
      simp only [fresl] at hv
      split at hv
      case h_2 => cases hv
      rename_i v ws e1 e2
      injection hv with hv
      subst hv
      have e3 : aresult P env σ (.cell t ty) = some v := by
        simp only [aresult]
        rw [(h.2 t lv h1).2]
        by_cases hd : isAggD dd = true
        · rw [if_pos hd] at e1
          simp only [fres] at e1
          split at e1
          · rename_i b o hx
            rw [Option.map_eq_some_iff] at e1
            obtain ⟨l', hl', e1⟩ := e1
            subst e1
            rw [hx]
            simp only [f_loadA h3 hd h4 hl', Option.map_some]
          · cases e1
        · rw [if_neg hd] at e1
          simp only [fres] at e1
          split at e1
          · rename_i a hx
            rw [hx]
            simp only [f_load1 h3 (by simpa using hd) e1, Option.map_some]
          · cases e1
      simp only [aresults, e3, ih h2 e2]

theorem loop_sound {ex : List (Nat × List Tmp)} {j : List Tmp} {fb : List Value → St → Option (FO × St)} {ab : List Value → St → ARes}
    (hb : ∀ {env ρ : List Value} {σ : St} {r : FO × St}, Ag (mkM j).1 (mkM j).2 env ρ → env.length = N → fb ρ σ = some r → XR P rs N ex (some (mkM j)) (ab env σ) r) :
    ∀ (k : Nat) {env ρ : List Value} {σ : St} {r : FO × St}, Ag (mkM j).1 (mkM j).2 env ρ → env.length = N → floop fb k ρ σ = some r → XR P rs N ex none (aloop ab k env σ) r := by
  intro k
  induction k with
  | zero => intro env ρ σ r h hN hf; cases hf
  | succ k ih =>
    intro env ρ σ r h hN hf
    simp only [floop] at hf
    cases hx : fb ρ σ with
    | none => rw [hx] at hf; cases hf
    | some y =>
      obtain ⟨o, s⟩ := y
      rw [hx] at hf
      have hy := hb h hN hx
      simp only [aloop]
      cases o with
      | nx ρ1 =>
        obtain ⟨env1, h1, h2, m', d', h3, h4⟩ := hy
        injection h3 with h3
        rw [h1]
        have : Ag (mkM j).1 (mkM j).2 env1 ρ1 := by rw [h3]; exact h4
        exact ih this h2 hf
      | ex id ρ1 =>
        injection hf with hf
        subst hf
        obtain ⟨env1, h1, h2⟩ := hy
        rw [h1]
        exact ⟨env1, rfl, h2⟩
      | ret v =>
        injection hf with hf
        subst hf
        obtain ⟨env1, h1, h2⟩ := hy
        rw [h1]
        exact ⟨env1, rfl, h2⟩
      | pan v =>
        injection hf with hf
        subst hf
        obtain ⟨env1, h1⟩ := hy
        rw [h1]
        exact ⟨env1, rfl⟩

theorem XR.weak {ex : List (Nat × List Tmp)} {s' s'' : Option (LM × Nat)} {x : ARes} {r : FO × St} (h : XR P rs N ex s' x r) (hs : ∀ ρ σ, r ≠ (.nx ρ, σ)) : XR P rs N ex s'' x r := by
  obtain ⟨o, σ⟩ := r
  cases o with
  | nx ρ => exact absurd rfl (hs ρ σ)
  | _ => exact h
theorem XR.shuf {ex : List (Nat × List Tmp)} {m1 : LM} {d1 : Nat} {j : List Tmp} {l : List Src} {x : ARes} {r : FO × St} (hl : shufOf m1 d1 j = some l) (h : XR P rs N ex (some (m1, d1)) x r) :
    ∀ {r' : FO × St}, (match (some r : Option (FO × St)) with | some (.nx ρ1, σ1) => fexec P G.gl n cF (.ops [.shuf l]) ρ1 σ1 | r => r) = some r' → XR P rs N ex (some (mkM j)) x r' := by
  intro r' hr
  obtain ⟨o, σ⟩ := r
  cases o with
  | nx ρ =>
    simp only [fexec, fops] at hr
    injection hr with hr
    subst hr
    obtain ⟨env1, h1, h2, m', d', h3, h4⟩ := h
    injection h3 with h3
    injection h3 with h3 h5
    subst h3 h5
    exact ⟨env1, h1, h2, _, _, rfl, h4.shuf hl⟩
  | _ =>
    injection hr with hr
    subst hr
    exact h

theorem lowC_sound (hc : ∀ f a σ r, cF f a σ = some r → cA f a σ = some r) (hD : ∀ call ops env σ, G.draw P call ops env σ = adraw G P call ops env σ) :
    ∀ (sk : Sk) (code : Code) {ex : List (Nat × List Tmp)} {m : LM} {d : Nat} {env ρ : List Value} {σ : St} {fc : FC} {s' : Option (LM × Nat)} {r : FO × St}, lowC P G N rs sk code ex m d = some (fc, s') → Ag m d env ρ → env.length = N →
      fexec P G.gl n cF fc ρ σ = some r → XR P rs N ex s' (aexec P G n cA code env σ) r := by
  intro sk
  induction sk with
  | leaf =>
    intro code ex m d env ρ σ fc s' r hl h hN hf
    cases code with
    | skip =>
      simp only [lowC] at hl
      injection hl with hl
      injection hl with e1 e2
      subst e1 e2
      injection hf with hf
      subst hf
      exact ⟨env, rfl, hN, m, d, rfl, h⟩
    | region id ops dr =>
      cases dr with
      | false =>
        simp only [lowC] at hl
        rw [Option.map_eq_some_iff] at hl
        obtain ⟨⟨fis, m1, d1⟩, h1, h2⟩ := hl
        injection h2 with e1 e2
        subst e1 e2
        exact lowOps_sound hc _ h hN h1 hf
      | true =>
        simp only [lowC] at hl
        split at hl
        · rename_i pl hpl
          rw [Option.map_eq_some_iff] at hl
          obtain ⟨⟨fis, m1, d1⟩, h1, h2⟩ := hl
          injection h2 with e1 e2
          subst e1 e2
          simp only [aexec, hD, adraw, hpl]
          exact lowPlan_sound hc _ h hN h1 hf
        · cases hl
    | exit id =>
      simp only [lowC] at hl
      split at hl
      · rename_i j hj
        rw [Option.map_eq_some_iff] at hl
        obtain ⟨l, h1, h2⟩ := hl
        injection h2 with e1 e2
        subst e1 e2
        injection hf with hf
        subst hf
        exact ⟨env, rfl, hN, j, hj, h.shuf h1⟩
      · cases hl
    | ret =>
      simp only [lowC] at hl
      rw [Option.map_eq_some_iff] at hl
      obtain ⟨l, h1, h2⟩ := hl
      injection h2 with e1 e2
      subst e1 e2
      simp only [fexec, Option.map_eq_some_iff] at hf
      obtain ⟨vs, h3, hf⟩ := hf
      subst hf
      exact ⟨env, rfl, vs, res_sound h h1 h3, rfl⟩
    | _ => simp only [lowC] at hl; cases hl
  | stuck =>
    intro code ex m d env ρ σ fc s' r hl h hN hf
    simp only [lowC] at hl
    injection hl with hl
    injection hl with e1 e2
    subst e1 e2
    cases hf
  | seq sa sb iha ihb =>
    intro code ex m d env ρ σ fc s' r hl h hN hf
    cases code <;> first | (simp only [lowC] at hl; cases hl; done) | skip
    rename_i a b
    simp only [lowC] at hl
    split at hl
    · rename_i A m1 d1 h1
      rw [Option.map_eq_some_iff] at hl
      obtain ⟨⟨B, sB⟩, h2, h3⟩ := hl
      injection h3 with e1 e2
      subst e1 e2
      simp only [fexec] at hf
      simp only [aexec]
      cases hx : fexec P G.gl n cF A ρ σ with
      | none => rw [hx] at hf; cases hf
      | some y =>
        obtain ⟨o, s⟩ := y
        rw [hx] at hf
        have hy := iha a h1 h hN hx
        cases o with
        | nx ρ1 =>
          obtain ⟨env1, g1, g2, m', d', g3, g4⟩ := hy
          injection g3 with g3
          injection g3 with g3 g5
          subst g3 g5
          rw [g1]
          exact ihb b h2 g4 g2 hf
        | ex id ρ1 =>
          injection hf with hf
          subst hf
          obtain ⟨env1, g1, g2⟩ := hy
          rw [g1]
          exact ⟨env1, rfl, g2⟩
        | ret v =>
          injection hf with hf
          subst hf
          obtain ⟨env1, g1, g2⟩ := hy
          rw [g1]
          exact ⟨env1, rfl, g2⟩
        | pan v =>
          injection hf with hf
          subst hf
          obtain ⟨env1, g1⟩ := hy
          rw [g1]
          exact ⟨env1, rfl⟩
    · rename_i A h1
      injection hl with hl
      injection hl with e1 e2
      subst e1 e2
      have hy := iha a h1 h hN hf
      simp only [aexec]
      obtain ⟨o, s⟩ := r
      cases o with
      | nx ρ1 => obtain ⟨env1, g1, g2, m', d', g3, g4⟩ := hy; cases g3
      | ex id ρ1 =>
        obtain ⟨env1, g1, g2⟩ := hy
        rw [g1]
        exact ⟨env1, rfl, g2⟩
      | ret v =>
        obtain ⟨env1, g1, g2⟩ := hy
        rw [g1]
        exact ⟨env1, rfl, g2⟩
      | pan v =>
        obtain ⟨env1, g1⟩ := hy
        rw [g1]
        exact ⟨env1, rfl⟩
    · cases hl
  | cond j sa sb iha ihb =>
    intro code ex m d env ρ σ fc s' r hl h hN hf
    cases code <;> first | (simp only [lowC] at hl; cases hl; done) | skip
    rename_i c a b
    simp only [lowC] at hl
    split at hl
    · rename_i s A m1 d1 B m2 d2 h0 h1 h2
      split at hl
      · rename_i l1 l2 h3 h4
        injection hl with hl
        injection hl with e1 e2
        subst e1 e2
        simp only [fexec, ← src_ev h h0] at hf
        simp only [aexec]
        cases hv : ev G env c <;> rw [hv] at hf <;> first | (cases hf; done) | skip
        rename_i t
        cases t
        · simp only [Bool.false_eq_true, if_false] at hf ⊢
          cases hx : fexec P G.gl n cF B ρ σ with
          | none => rw [hx] at hf; cases hf
          | some y =>
            rw [hx] at hf
            exact XR.shuf (n := n) (cF := cF) h4 (ihb b h2 h hN hx) hf
        · simp only [if_true] at hf ⊢
          cases hx : fexec P G.gl n cF A ρ σ with
          | none => rw [hx] at hf; cases hf
          | some y =>
            rw [hx] at hf
            exact XR.shuf (n := n) (cF := cF) h3 (iha a h1 h hN hx) hf
      · cases hl
    · rename_i s A x B h0 h1 h2
      injection hl with hl
      injection hl with e1 e2
      subst e1 e2
      simp only [fexec, ← src_ev h h0] at hf
      simp only [aexec]
      cases hv : ev G env c <;> rw [hv] at hf <;> first | (cases hf; done) | skip
      rename_i t
      cases t
      · simp only [Bool.false_eq_true, if_false] at hf ⊢
        have hy := ihb b h2 h hN hf
        refine hy.weak fun ρ' σ' e => ?_
        subst e
        obtain ⟨env1, g1, g2, m', d', g3, g4⟩ := hy
        cases g3
      · simp only [if_true] at hf ⊢
        exact iha a h1 h hN hf
    · rename_i s A B x h0 h1 h2
      injection hl with hl
      injection hl with e1 e2
      subst e1 e2
      simp only [fexec, ← src_ev h h0] at hf
      simp only [aexec]
      cases hv : ev G env c <;> rw [hv] at hf <;> first | (cases hf; done) | skip
      rename_i t
      cases t
      · simp only [Bool.false_eq_true, if_false] at hf ⊢
        exact ihb b h2 h hN hf
      · simp only [if_true] at hf ⊢
        have hy := iha a h1 h hN hf
        refine hy.weak fun ρ' σ' e => ?_
        subst e
        obtain ⟨env1, g1, g2, m', d', g3, g4⟩ := hy
        cases g3
    · cases hl
  | block j sb ih =>
    intro code ex m d env ρ σ fc s' r hl h hN hf
    cases code <;> first | (simp only [lowC] at hl; cases hl; done) | skip
    rename_i id b
    simp only [lowC] at hl
    have fin : ∀ {r0 : FO × St} {r : FO × St}, XR P rs N ((id, j) :: ex) (some (mkM j)) (aexec P G n cA b env σ) r0 →
        (match (some r0 : Option (FO × St)) with | some (.ex i ρ1, σ1) => if i = id then some (.nx ρ1, σ1) else some (.ex i ρ1, σ1) | r => r) = some r → XR P rs N ex (some (mkM j)) (aexec P G n cA (.block id b) env σ) r := by
      intro r0 r hy hr
      obtain ⟨o, s⟩ := r0
      simp only [aexec]
      cases o with
      | nx ρ1 =>
        injection hr with hr
        subst hr
        obtain ⟨env1, g1, g2⟩ := hy
        rw [g1]
        exact ⟨env1, rfl, g2⟩
      | ex i ρ1 =>
        obtain ⟨env1, g1, g2, j', g3, g4⟩ := hy
        rw [lookup_cons] at g3
        simp only at hr
        rw [g1]
        by_cases e : i = id
        · rw [if_pos e] at hr g3
          injection hr with hr
          injection g3 with g3
          subst hr g3 e
          simp only [if_true]
          exact ⟨env1, rfl, g2, _, _, rfl, g4⟩
        · rw [if_neg e] at hr g3
          injection hr with hr
          subst hr
          simp only [e, if_false]
          exact ⟨env1, rfl, g2, j', g3, g4⟩
      | ret v =>
        injection hr with hr
        subst hr
        obtain ⟨env1, g1, g2⟩ := hy
        rw [g1]
        exact ⟨env1, rfl, g2⟩
      | pan v =>
        injection hr with hr
        subst hr
        obtain ⟨env1, g1⟩ := hy
        rw [g1]
        exact ⟨env1, rfl⟩
    split at hl
    · rename_i B m1 d1 h1
      rw [Option.map_eq_some_iff] at hl
      obtain ⟨l, h2, h3⟩ := hl
      injection h3 with e1 e2
      subst e1 e2
      simp only [fexec] at hf
      cases hx : fexec P G.gl n cF B ρ σ with
      | none => rw [hx] at hf; cases hf
      | some y =>
        rw [hx] at hf
        have hy := ih b h1 h hN hx
        cases hz : (match (some y : Option (FO × St)) with | some (.nx ρ1, σ1) => fexec P G.gl n cF (.ops [.shuf l]) ρ1 σ1 | r => r) with
        | none =>
          obtain ⟨o, s⟩ := y
          cases o <;> cases hz
        | some z =>
          have hy2 := XR.shuf (n := n) (cF := cF) h2 hy hz
          refine fin hy2 ?_
          rw [← hz]
          exact hf
    · rename_i B h1
      injection hl with hl
      injection hl with e1 e2
      subst e1 e2
      simp only [fexec] at hf
      cases hx : fexec P G.gl n cF B ρ σ with
      | none => rw [hx] at hf; cases hf
      | some y =>
        rw [hx] at hf
        have hy := ih b h1 h hN hx
        refine fin (hy.weak fun ρ' σ' e => ?_) hf
        subst e
        obtain ⟨env1, g1, g2, m', d', g3, g4⟩ := hy
        cases g3
    · cases hl
  | loop j sb ih =>
    intro code ex m d env ρ σ fc s' r hl h hN hf
    cases code <;> first | (simp only [lowC] at hl; cases hl; done) | skip
    rename_i b
    simp only [lowC] at hl
    split at hl
    · rename_i l B m1 d1 h0 h1
      rw [Option.map_eq_some_iff] at hl
      obtain ⟨l1, h2, h3⟩ := hl
      injection h3 with e1 e2
      subst e1 e2
      simp only [fexec, fops] at hf
      simp only [aexec]
      refine loop_sound (fb := fexec P G.gl n cF (.seq B (.ops [.shuf l1]))) (fun {env ρ σ r} ha hn hb => ?_) n (h.shuf h0) hN hf
      simp only [fexec] at hb
      cases hx : fexec P G.gl n cF B ρ σ with
      | none => rw [hx] at hb; cases hb
      | some y =>
        rw [hx] at hb
        exact XR.shuf (n := n) (cF := cF) h2 (ih b h1 ha hn hx) hb
    · rename_i l B h0 h1
      injection hl with hl
      injection hl with e1 e2
      subst e1 e2
      simp only [fexec, fops] at hf
      simp only [aexec]
      refine loop_sound (fb := fexec P G.gl n cF B) (fun {env ρ σ r} ha hn hb => ?_) n (h.shuf h0) hN hf
      have hy := ih b h1 ha hn hb
      refine hy.weak fun ρ' σ' e => ?_
      subst e
      obtain ⟨env1, g1, g2, m', d', g3, g4⟩ := hy
      cases g3
    · cases hl

theorem ag_args : ∀ (j : List Tmp) {env ρ : List Value}, j.map (fun t => env.getD t undef) = ρ → Ag (mkM j).1 (mkM j).2 env ρ := by
  intro j
  induction j with
  | nil => intro env ρ h; subst h; exact ⟨rfl, fun t lv h => by cases h⟩
  | cons t j ih =>
    intro env ρ h
    subst h
    exact (ih rfl).here rfl
theorem args_env (args : List Value) (k : Nat) : (List.range args.length).map (fun t => (args ++ List.replicate k undef).getD t undef) = args := by
  apply List.ext_getElem (by simp)
  intro i h1 h2
  simp only [List.getElem_map, List.getElem_range, List.getD_eq_getElem?_getD, List.getElem?_append_left h2, List.getElem?_eq_getElem h2, Option.getD_some]
theorem fbody_sound (hc : ∀ f a σ r, cF f a σ = some r → cA f a σ = some r) (hD : ∀ call ops env σ, G.draw P call ops env σ = adraw G P call ops env σ) {na : Nat} {sk : Sk} {fn : Func} {fc : FC} (hl : lowF P G na sk fn = some fc)
    {args : List Value} {σ : St} {r : AEnd × St} (hf : fbody P G.gl n cF ⟨na, fc⟩ args σ = some r) : abody P G n cA fn args σ = some r := by
  unfold fbody at hf
  split at hf
  case isFalse => cases hf
  rename_i hna
  simp only at hna
  unfold lowF at hl
  split at hl
  case h_2 => cases hl
  rename_i c hbody
  split at hl
  case isFalse => cases hl
  rename_i hle
  have hag : Ag (mkM (List.range na)).1 (mkM (List.range na)).2 (args ++ List.replicate (fn.ntmps - args.length) undef) args := ag_args _ (by rw [← hna]; exact args_env args _)
  have hlen : (args ++ List.replicate (fn.ntmps - args.length) undef).length = fn.ntmps := by simp; omega
  simp only [abody, hbody]
  split at hl
  · rename_i A m d h1
    rw [Option.map_eq_some_iff] at hl
    obtain ⟨l, h2, h3⟩ := hl
    subst h3
    simp only [fexec] at hf
    cases hx : fexec P G.gl n cF A args σ with
    | none => rw [hx] at hf; cases hf
    | some y =>
      obtain ⟨o, s⟩ := y
      rw [hx] at hf
      have hy := lowC_sound hc hD sk c h1 hag hlen hx
      cases o with
      | nx ρ1 =>
        obtain ⟨env1, g1, g2, m', d', g3, g4⟩ := hy
        injection g3 with g3
        injection g3 with g3 g5
        subst g3 g5
        rw [g1]
        simp only at hf ⊢
        cases hv : fresl ρ1 s l with
        | none => rw [hv] at hf; cases hf
        | some vs =>
          rw [hv] at hf
          injection hf with hf
          subst hf
          rw [res_sound g4 h2 hv]
          rfl
      | ex id ρ1 => cases hf
      | ret v =>
        injection hf with hf
        subst hf
        obtain ⟨env1, g1, l', g2, g3⟩ := hy
        rw [g1]
        simp only [g2, Option.map_some, g3]
      | pan v =>
        injection hf with hf
        subst hf
        obtain ⟨env1, g1⟩ := hy
        rw [g1]
  · rename_i A h1
    injection hl with hl
    subst hl
    cases hx : fexec P G.gl n cF A args σ with
    | none => simp only [hx] at hf; cases hf
    | some y =>
      obtain ⟨o, s⟩ := y
      simp only [hx] at hf
      have hy := lowC_sound hc hD sk c h1 hag hlen hx
      cases o with
      | nx ρ1 => cases hf
      | ex id ρ1 => cases hf
      | ret v =>
        injection hf with hf
        subst hf
        obtain ⟨env1, g1, l', g2, g3⟩ := hy
        rw [g1]
        simp only [g2, Option.map_some, g3]
      | pan v =>
        injection hf with hf
        subst hf
        obtain ⟨env1, g1⟩ := hy
        rw [g1]
  · cases hl
end

/-- The lowered program stands for the loaded one. -/
structure Lowered (Q : FP) (G : Cfg) : Prop where
  gl : Q.gl = G.gl
  hooked : Q.hooked = G.hooked
  hook : ∀ f a σ r, Q.hooked f = true → Q.hook f a σ = some r → G.hook f a σ = some r
  draw : ∀ call ops env σ, G.draw Q.P call ops env σ = adraw G Q.P call ops env σ
  tab : ∀ f F, Q.hooked f = false → Q.tab f = some F → G.ok f = true ∧ ∃ fn sk, Q.P.funcs[f]? = some fn ∧ lowF Q.P G F.na sk fn = some F.code

theorem fcall_sound {Q : FP} {G : Cfg} (hL : Lowered Q G) : ∀ (n : Nat) (f : FuncId) (a : List Value) (σ : St) (r : AEnd × St), fcall Q n f a σ = some r → acall Q.P G n f a σ = some r := by
  intro n
  induction n with
  | zero => intro f a σ r h; cases h
  | succ n ih =>
    intro f a σ r h
    simp only [fcall] at h
    simp only [acall, ← hL.hooked]
    split at h
    · rename_i hh
      rw [if_pos hh]
      exact hL.hook f a σ r hh h
    · rename_i hh
      rw [if_neg hh]
      split at h
      · rename_i F hF
        obtain ⟨h1, fn, sk, h2, h3⟩ := hL.tab f F (by simpa using hh) hF
        rw [if_pos h1, h2]
        rw [hL.gl] at h
        exact fbody_sound ih hL.draw h3 h
      · cases h
end Go.AM
namespace Go.AM
open Go
/-! A table of functions by their numbers. -/
inductive FT where
  | leaf
  | node (k : Nat) (v : FFun) (l r : FT)
def FT.find : FT → Nat → Option FFun
  | .leaf, _ => none
  | .node k v l r, f => bif Nat.beq f k then some v else bif Nat.blt f k then l.find f else r.find f
def FT.All (p : Nat → FFun → Prop) : FT → Prop
  | .leaf => True
  | .node k v l r => p k v ∧ l.All p ∧ r.All p
theorem FT.all_find {p : Nat → FFun → Prop} : ∀ {t : FT}, t.All p → ∀ {f : Nat} {v : FFun}, t.find f = some v → p f v := by
  intro t
  induction t with
  | leaf => intro _ f v h; cases h
  | node k x l r ihl ihr =>
    intro ha f v h
    obtain ⟨h1, h2, h3⟩ := ha
    simp only [FT.find] at h
    by_cases hk : Nat.beq f k = true
    · rw [hk, cond_true] at h
      injection h with h
      have := Nat.eq_of_beq_eq_true hk
      subst this h
      exact h1
    · have hk' : Nat.beq f k = false := by cases h : Nat.beq f k <;> simp_all
      rw [hk', cond_false] at h
      cases hb : Nat.blt f k with
      | true => rw [hb, cond_true] at h; exact ihl h2 h
      | false => rw [hb, cond_false] at h; exact ihr h3 h
end Go.AM

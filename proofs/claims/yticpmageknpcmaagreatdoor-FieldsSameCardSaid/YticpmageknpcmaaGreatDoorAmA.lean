/- A part of the proof that FieldsSame, called with any two lists of tags (the laid tables as the text lays them), returns true and leaves its arguments as they were. Here: an abstract machine's heap, and its relation to the real one. -/
import Derived.Calls
import Derived.Orders
import Derived.Tactics
import Derived.Laws.Sem
set_option linter.unusedVariables false
namespace Go.AM
open Go

/-! The abstract machine: a heap of handles, no capacities, no orders; the run of an operation's tree over it. -/

inductive AObj where
  | cells (cs : List Value) (t : TypeId) (wr : Bool)
  | map (es : Array MapEntry) (clock : Nat)
  | iter (s : ByteArray) (pos : Nat)
  | dead
  deriving Inhabited

/-- A heap's objects by their handles: a tree by the handles' digits. -/
inductive Tri where
  | leaf
  | node (v : Option AObj) (l r : Tri)
  deriving Inhabited
namespace Tri
def find : Tri → Nat → Option AObj
  | .leaf, _ => none
  | .node v _ _, 0 => v
  | .node _ l r, k + 1 => if k % 2 = 0 then find l (k / 2) else find r (k / 2)
def insert (o : AObj) : Nat → Tri → Nat → Tri
  | 0, t, _ => t
  | _ + 1, .leaf, 0 => .node (some o) .leaf .leaf
  | _ + 1, .node _ l r, 0 => .node (some o) l r
  | f + 1, .leaf, k + 1 => if k % 2 = 0 then .node none (insert o f .leaf (k / 2)) .leaf else .node none .leaf (insert o f .leaf (k / 2))
  | f + 1, .node v l r, k + 1 => if k % 2 = 0 then .node v (insert o f l (k / 2)) r else .node v l (insert o f r (k / 2))
theorem find_insert (o : AObj) : ∀ (f : Nat) (t : Tri) (k j : Nat), k < f → (insert o f t k).find j = if j = k then some o else t.find j := by
  intro f
  induction f with
  | zero => intro t k j h; omega
  | succ f ih =>
    intro t k j h
    cases t with
    | leaf =>
      cases k with
      | zero => cases j <;> simp [insert, find]
      | succ k =>
        have h2 : k / 2 < f := by omega
        simp only [insert]
        split
        · cases j with
          | zero => simp [find]
          | succ j =>
            simp only [find]
            split
            · rw [ih _ _ _ h2]
              by_cases e : j = k
              · subst e; simp
              · rw [if_neg (by omega), if_neg (by omega)]; simp [find]
            · rw [if_neg (by omega)]
        · cases j with
          | zero => simp [find]
          | succ j =>
            simp only [find]
            split
            · rw [if_neg (by omega)]
            · rw [ih _ _ _ h2]
              by_cases e : j = k
              · subst e; simp
              · rw [if_neg (by omega), if_neg (by omega)]; simp [find]
    | node v l r =>
      cases k with
      | zero => cases j <;> simp [insert, find]
      | succ k =>
        have h2 : k / 2 < f := by omega
        simp only [insert]
        split
        · cases j with
          | zero => simp [find]
          | succ j =>
            simp only [find]
            split
            · rw [ih _ _ _ h2]
              by_cases e : j = k
              · subst e; simp
              · rw [if_neg (by omega), if_neg (by omega)]
            · rw [if_neg (by omega)]
        · cases j with
          | zero => simp [find]
          | succ j =>
            simp only [find]
            split
            · rw [if_neg (by omega)]
            · rw [ih _ _ _ h2]
              by_cases e : j = k
              · subst e; simp
              · rw [if_neg (by omega), if_neg (by omega)]
end Tri

structure St where
  n : Nat
  tri : Tri
  thr : Nat
  dirty : Bool

namespace St
def get (σ : St) (h : Nat) : Option AObj := if h < σ.n then some ((σ.tri.find h).getD .dead) else none
def alloc (σ : St) (o : AObj) : St := { n := σ.n + 1, tri := σ.tri.insert o (σ.n + 1) σ.n, thr := σ.thr, dirty := σ.dirty }
def put (σ : St) (h : Nat) (o : AObj) : St := { n := σ.n, tri := σ.tri.insert o (h + 1) h, thr := σ.thr, dirty := σ.dirty }
def touch (σ : St) (h : Nat) : St := { n := σ.n, tri := σ.tri, thr := σ.thr, dirty := σ.dirty || decide (h < σ.thr) }

@[simp] theorem n_alloc (σ : St) (o : AObj) : (σ.alloc o).n = σ.n + 1 := rfl
@[simp] theorem n_put (σ : St) (h : Nat) (o : AObj) : (σ.put h o).n = σ.n := rfl
@[simp] theorem n_touch (σ : St) (h : Nat) : (σ.touch h).n = σ.n := rfl
@[simp] theorem get_touch (σ : St) (h k : Nat) : (σ.touch h).get k = σ.get k := rfl

theorem get_lt {σ : St} {h : Nat} {o : AObj} (hg : σ.get h = some o) : h < σ.n := by
  unfold get at hg
  split at hg
  · assumption
  · simp at hg
theorem get_some {σ : St} {h : Nat} (hlt : h < σ.n) : ∃ o, σ.get h = some o := by
  unfold get
  rw [if_pos hlt]
  exact ⟨_, rfl⟩
theorem get_alloc (σ : St) (o : AObj) (h : Nat) : (σ.alloc o).get h = if h = σ.n then some o else σ.get h := by
  show (if h < σ.n + 1 then some (((σ.tri.insert o (σ.n + 1) σ.n).find h).getD .dead) else none) = if h = σ.n then some o else if h < σ.n then some ((σ.tri.find h).getD .dead) else none
  rw [Tri.find_insert _ _ _ _ _ (by omega)]
  by_cases e : h = σ.n
  · subst e; simp
  · by_cases hlt : h < σ.n
    · rw [if_pos (by omega), if_neg e, if_neg e, if_pos hlt]
    · rw [if_neg (by omega), if_neg e, if_neg hlt]
theorem get_alloc_eq (σ : St) (o : AObj) : (σ.alloc o).get σ.n = some o := by rw [get_alloc, if_pos rfl]
theorem get_alloc_ne (σ : St) (o : AObj) {h : Nat} (hne : h ≠ σ.n) : (σ.alloc o).get h = σ.get h := by rw [get_alloc, if_neg hne]
theorem get_put (σ : St) (o : AObj) {h : Nat} (hlt : h < σ.n) (k : Nat) : (σ.put h o).get k = if k = h then some o else σ.get k := by
  show (if k < σ.n then some (((σ.tri.insert o (h + 1) h).find k).getD .dead) else none) = if k = h then some o else if k < σ.n then some ((σ.tri.find k).getD .dead) else none
  rw [Tri.find_insert _ _ _ _ _ (by omega)]
  by_cases e : k = h
  · subst e; simp [hlt]
  · rw [if_neg e, if_neg e]
theorem get_put_eq (σ : St) (o : AObj) {h : Nat} (hlt : h < σ.n) : (σ.put h o).get h = some o := by rw [get_put σ o hlt, if_pos rfl]
theorem get_put_ne (σ : St) (o : AObj) {h k : Nat} (hlt : h < σ.n) (hne : k ≠ h) : (σ.put h o).get k = σ.get k := by rw [get_put σ o hlt, if_neg hne]

def cell? (σ : St) (a : Addr) : Option Value :=
  match σ.get a.block with
  | some (.cells cs _ _) => if a.spot.isSome then none else cs[a.off]?
  | _ => none

def oneCell : Value → Bool
  | .agg _ | .tuple _ => false
  | _ => true

def setCell? (σ : St) (a : Addr) (v : Value) : Option St :=
  match σ.get a.block with
  | some (.cells cs t true) =>
    if a.spot.isSome then none else
    if a.off < cs.length then (if oneCell v then some ((σ.put a.block (.cells (cs.set a.off v) t true)).touch a.block) else none) else none
  | _ => none
end St

/-- A new object. -/
def newObj? : Obj → Option AObj
  | .cells c t (0, 0) => if c.toList.all St.oneCell then some (.cells c.toList t true) else none
  | .map es cl => some (.map es cl)
  | .stringIter s p => some (.iter s p)
  | _ => none

def asObj? : AObj → Option Obj
  | .map es cl => some (.map es cl)
  | .iter s p => some (.stringIter s p)
  | _ => none

/-- What is put in an object's place, if that is of its kind. -/
def setObj? : AObj → Obj → Option AObj
  | .map _ _, .map es cl => some (.map es cl)
  | .iter _ _, .stringIter s p => some (.iter s p)
  | _, _ => none

def arun (P : Program) {α : Type} : Sem α → St → Option (α × St)
  | .pure a, σ => some (a, σ)
  | .load _ a k, σ => match σ.cell? a with
    | some v => arun P (k v) σ
    | none => none
  | .store _ a v k, σ => match σ.setCell? a v with
    | some σ1 => arun P k σ1
    | none => none
  | .new o k, σ => match newObj? o with
    | some ob => arun P (k σ.n) (σ.alloc ob)
    | none => none
  | .shape _ _, _ => none
  | .freeze a n k, σ => match σ.get a.block with
    | some (.cells cs t _) => if n = 0 then arun P k σ else if a.off + n ≤ cs.length then arun P k (σ.put a.block (.cells cs t false)) else none
    | _ => none
  | .frozen _ _, _ => none
  | .getObj r k, σ => match (σ.get r).bind asObj? with
    | some o => arun P (k o) σ
    | none => none
  | .setObj r o k, σ => match (σ.get r).bind fun x => setObj? x o with
    | some ob => arun P k ((σ.put r ob).touch r)
    | none => none
  | .choose q k, σ => if q.forced then arun P (k 0) σ else none
  | .sys _ _, _ => none
  | .program k, σ => arun P (k P) σ
  | .mark _ k, σ => arun P k σ
  | .halt _, _ => none

theorem arun_bind' (P : Program) {α β : Type} (s : Sem α) (f : α → Sem β) : ∀ σ, arun P (s.bind f) σ = (arun P s σ).bind fun x => arun P (f x.1) x.2 := by
  induction s with
  | pure a => intro σ; rfl
  | load m a k ih => intro σ; simp only [Sem.bind, arun]; split <;> simp_all
  | store m a v k ih => intro σ; simp only [Sem.bind, arun]; split <;> simp_all
  | new o k ih => intro σ; simp only [Sem.bind, arun]; split <;> simp_all
  | shape r k ih => intro σ; rfl
  | freeze a n k ih => intro σ; simp only [Sem.bind, arun]; split <;> (try split) <;> (try split) <;> simp_all
  | frozen a k ih => intro σ; rfl
  | getObj r k ih => intro σ; simp only [Sem.bind, arun]; split <;> simp_all
  | setObj r o k ih => intro σ; simp only [Sem.bind, arun]; split <;> simp_all
  | choose q k ih => intro σ; simp only [Sem.bind, arun]; split <;> simp_all
  | sys c k ih => intro σ; rfl
  | program k ih => intro σ; simp only [Sem.bind, arun]; exact ih _ σ
  | mark m k ih => intro σ; simp only [Sem.bind, arun]; exact ih σ
  | halt h => intro σ; rfl
theorem arun_bind (P : Program) {α β : Type} (s : Sem α) (f : α → Sem β) (σ : St) : arun P (s >>= f) σ = (arun P s σ).bind fun x => arun P (f x.1) x.2 := arun_bind' P s f σ
theorem arun_pure (P : Program) {α : Type} (a : α) (σ : St) : arun P (pure a : Sem α) σ = some (a, σ) := rfl

end Go.AM
namespace Go.AM
open Go

/-! Abstract values and heaps against the real ones. -/

structure PMap where
  at_ : Nat → Addr
  room : Nat → Nat
  sz : Nat → Nat

mutual
inductive RV (φ : PMap) (n : Nat) : Value → Value → Prop
  | bool (b : Bool) : RV φ n (.bool b) (.bool b)
  | int (k : IntKind) (i : Int) : RV φ n (.int k i) (.int k i)
  | string (s : ByteArray) : RV φ n (.string s) (.string s)
  | nilPtr : RV φ n (.pointer none) (.pointer none)
  | ptr (h o : Nat) (hn : h < n) (hs : (φ.at_ h).spot = none) : RV φ n (.pointer (some ⟨h, o, none⟩)) (.pointer (some ⟨(φ.at_ h).block, (φ.at_ h).off + o, none⟩))
  | nilSlice : RV φ n (.slice none 0 0) (.slice none 0 0)
  | slice (h o o' l c c' : Nat) (hn : h < n) (hs : (φ.at_ h).spot = none) (ho : 0 < c → o' = (φ.at_ h).off + o) (hl : l ≤ c) (hc : c ≤ c')
      (hr : c = c' ∨ o' + c' * φ.sz h ≤ (φ.at_ h).off + φ.room h) : RV φ n (.slice (some ⟨h, o, none⟩) l c) (.slice (some ⟨(φ.at_ h).block, o', none⟩) l c')
  | nilMap : RV φ n (.map none) (.map none)
  | map (h r : Nat) (hn : h < n) (hr : φ.at_ h = ⟨r, 0, none⟩) : RV φ n (.map (some h)) (.map (some r))
  | float (k : FloatKind) (b : Nat) : RV φ n (.float k b) (.float k b)
  | complex (k : FloatKind) (a b : Nat) : RV φ n (.complex k a b) (.complex k a b)
  | nilChan : RV φ n (.chan none) (.chan none)
  | nilFunc : RV φ n .nilFunc .nilFunc
  | nilIface : RV φ n .nilIface .nilIface
  | iface (t : TypeId) {v v' : Value} : RV φ n v v' → RV φ n (.iface t v) (.iface t v')
  | func (f : Fn) {a a' c c' : Array Value} : RVl φ n a.toList a'.toList → RVl φ n c.toList c'.toList → RV φ n (.func f a c) (.func f a' c')
  | agg {a a' : Array Value} : RVl φ n a.toList a'.toList → RV φ n (.agg a) (.agg a')
  | tuple {a a' : Array Value} : RVl φ n a.toList a'.toList → RV φ n (.tuple a) (.tuple a')
inductive RVl (φ : PMap) (n : Nat) : List Value → List Value → Prop
  | nil : RVl φ n [] []
  | cons {v v' : Value} {l l' : List Value} : RV φ n v v' → RVl φ n l l' → RVl φ n (v :: l) (v' :: l')
end

def Ext (φ φ1 : PMap) (n : Nat) : Prop := ∀ h, h < n → φ1.at_ h = φ.at_ h ∧ φ1.room h = φ.room h ∧ φ1.sz h = φ.sz h
theorem Ext.refl (φ : PMap) (n : Nat) : Ext φ φ n := fun _ _ => ⟨rfl, rfl, rfl⟩
theorem Ext.trans {φ φ1 φ2 : PMap} {n n1 : Nat} (h : Ext φ φ1 n) (hn : n ≤ n1) (h' : Ext φ1 φ2 n1) : Ext φ φ2 n := fun k hk => by
  obtain ⟨a, b, c⟩ := h k hk
  obtain ⟨a', b', c'⟩ := h' k (by omega)
  exact ⟨a'.trans a, b'.trans b, c'.trans c⟩

mutual
theorem RV.mono {φ φ1 : PMap} {n n1 : Nat} (he : Ext φ φ1 n) (hn : n ≤ n1) : ∀ {v v' : Value}, RV φ n v v' → RV φ1 n1 v v'
  | _, _, .bool b => .bool b
  | _, _, .int k i => .int k i
  | _, _, .string s => .string s
  | _, _, .nilPtr => .nilPtr
  | _, _, .ptr h o hh hs => by
    obtain ⟨a, _, _⟩ := he h hh
    rw [← a]
    exact .ptr h o (by omega) (by rw [a]; exact hs)
  | _, _, .nilSlice => .nilSlice
  | _, _, .slice h o o' l c c' hh hs ho hl hc hr => by
    obtain ⟨a, b, d⟩ := he h hh
    rw [← a]
    exact .slice h o o' l c c' (by omega) (by rw [a]; exact hs) (by rw [a]; exact ho) hl hc (by rw [a, b, d]; exact hr)
  | _, _, .nilMap => .nilMap
  | _, _, .map h r hh hr => .map h r (by omega) (by rw [(he h hh).1]; exact hr)
  | _, _, .float k b => .float k b
  | _, _, .complex k a b => .complex k a b
  | _, _, .nilChan => .nilChan
  | _, _, .nilFunc => .nilFunc
  | _, _, .nilIface => .nilIface
  | _, _, .iface t hv => .iface t (hv.mono he hn)
  | _, _, .func f ha hc => .func f (ha.mono he hn) (hc.mono he hn)
  | _, _, .agg ha => .agg (ha.mono he hn)
  | _, _, .tuple ha => .tuple (ha.mono he hn)
theorem RVl.mono {φ φ1 : PMap} {n n1 : Nat} (he : Ext φ φ1 n) (hn : n ≤ n1) : ∀ {v v' : List Value}, RVl φ n v v' → RVl φ1 n1 v v'
  | _, _, .nil => .nil
  | _, _, .cons hv hl => .cons (hv.mono he hn) (hl.mono he hn)
end

section
variable {φ : PMap} {n : Nat}
theorem RVl.length {l l' : List Value} (h : RVl φ n l l') : l.length = l'.length := by
  induction l generalizing l' with
  | nil => cases h; rfl
  | cons v l ih => cases h with | cons hv hl => simp [ih hl]
theorem RVl.get {l l' : List Value} (h : RVl φ n l l') (i : Nat) {v : Value} (hv : l[i]? = some v) : ∃ v', l'[i]? = some v' ∧ RV φ n v v' := by
  induction l generalizing l' i with
  | nil => simp at hv
  | cons x l ih =>
    cases h with
    | cons hx hl =>
      cases i with
      | zero => simp at hv; subst hv; exact ⟨_, rfl, hx⟩
      | succ i => simp at hv; simpa using ih hl i hv
theorem RVl.of_get {l l' : List Value} (hlen : l.length = l'.length) (h : ∀ (i : Nat) (v : Value), l[i]? = some v → ∃ v' : Value, l'[i]? = some v' ∧ RV φ n v v') : RVl φ n l l' := by
  induction l generalizing l' with
  | nil => cases l' with
    | nil => exact .nil
    | cons => simp at hlen
  | cons x l ih =>
    cases l' with
    | nil => simp at hlen
    | cons x' l' =>
      obtain ⟨y, hy, hr⟩ := h 0 x rfl
      simp at hy
      subst hy
      exact .cons hr (ih (by simpa using hlen) fun i v hv => by simpa using h (i + 1) v (by simpa using hv))
theorem RVl.append {l l' m m' : List Value} (h : RVl φ n l l') (h' : RVl φ n m m') : RVl φ n (l ++ m) (l' ++ m') := by
  induction l generalizing l' with
  | nil => cases h; exact h'
  | cons x l ih => cases h with | cons hx hl => exact .cons hx (ih hl)
theorem RVl.take {l l' : List Value} (h : RVl φ n l l') (k : Nat) : RVl φ n (l.take k) (l'.take k) := by
  induction l generalizing l' k with
  | nil => cases h; simp; exact .nil
  | cons x l ih =>
    cases h with
    | cons hx hl =>
      cases k with
      | zero => simp; exact .nil
      | succ k => simp only [List.take_succ_cons]; exact .cons hx (ih hl k)
theorem RVl.drop {l l' : List Value} (h : RVl φ n l l') (k : Nat) : RVl φ n (l.drop k) (l'.drop k) := by
  induction l generalizing l' k with
  | nil => cases h; simp; exact .nil
  | cons x l ih =>
    cases h with
    | cons hx hl =>
      cases k with
      | zero => simp only [List.drop_zero]; exact .cons hx hl
      | succ k => simp only [List.drop_succ_cons]; exact ih hl k
theorem RVl.set {l l' : List Value} (h : RVl φ n l l') (k : Nat) {v v' : Value} (hv : RV φ n v v') : RVl φ n (l.set k v) (l'.set k v') := by
  induction l generalizing l' k with
  | nil => cases h; exact .nil
  | cons x l ih =>
    cases h with
    | cons hx hl =>
      cases k with
      | zero => exact .cons hv hl
      | succ k => exact .cons hx (ih hl k)
theorem RVl.map {α : Type} {l : List α} {f g : α → Value} (h : ∀ x, x ∈ l → RV φ n (f x) (g x)) : RVl φ n (l.map f) (l.map g) := by
  induction l with
  | nil => exact .nil
  | cons x l ih => exact .cons (h x (by simp)) (ih fun y hy => h y (by simp [hy]))
theorem RV.cells {v v' : Value} (h : RV φ n v v') : RVl φ n v.cells.toList v'.cells.toList := by
  cases h
  case agg ha => exact ha
  case bool b => exact .cons (.bool b) .nil
  case int k i => exact .cons (.int k i) .nil
  case string s => exact .cons (.string s) .nil
  case nilPtr => exact .cons .nilPtr .nil
  case ptr h o hh hs => exact .cons (.ptr h o hh hs) .nil
  case nilSlice => exact .cons .nilSlice .nil
  case slice h o o' l c c' hh hs ho hl hc hr => exact .cons (.slice h o o' l c c' hh hs ho hl hc hr) .nil
  case nilMap => exact .cons .nilMap .nil
  case map h r hh hr => exact .cons (.map h r hh hr) .nil
  case float k b => exact .cons (.float k b) .nil
  case complex k a b => exact .cons (.complex k a b) .nil
  case nilChan => exact .cons .nilChan .nil
  case nilFunc => exact .cons .nilFunc .nil
  case nilIface => exact .cons .nilIface .nil
  case iface t _ _ hv => exact .cons (.iface t hv) .nil
  case func f _ _ _ _ ha hc => exact .cons (.func f ha hc) .nil
  case tuple ha => exact .cons (.tuple ha) .nil
theorem RV.one {v v' : Value} (h : RV φ n v v') : St.oneCell v' = St.oneCell v := by cases h <;> rfl
theorem RV.undef_ : RV φ n undef undef := .tuple .nil
end

def szOf (P : Program) (t : TypeId) : Option Nat := (P.info? t).map (·.size)

def REs (φ : PMap) (n : Nat) (es es' : Array MapEntry) : Prop :=
  es.size = es'.size ∧ ∀ (i : Nat) (e : MapEntry), es[i]? = some e → ∃ e' : MapEntry, es'[i]? = some e' ∧ e'.born = e.born ∧ RV φ n e.key e'.key ∧ RV φ n e.val e'.val

def own : AObj → Bool
  | .cells _ _ wr => wr
  | .map .. | .iter .. => true
  | .dead => false
def live : AObj → Bool
  | .dead => false
  | _ => true
theorem live_of_own {o : AObj} (h : own o = true) : live o = true := by cases o <;> simp_all [own, live]

/-- A type whose variables stand in blocks of their own. -/
def soleT (P : Program) (t : TypeId) : Bool := match P.info? t with
  | some { desc := .named n _, .. } => n == "strings.Builder"
  | _ => false

def RO (P : Program) (φ : PMap) (n : Nat) (h : Nat) (w : World) : AObj → Prop
  | .dead => True
  | .cells cs t wr => ((φ.at_ h).spot = none ∧ cs.all St.oneCell = true) ∧ ∃ cs' t' fr, w.heap[(φ.at_ h).block]? = some (.cells cs' t' fr) ∧
      (∀ (i : Nat) (v : Value), cs[i]? = some v → ∃ v' : Value, cs'[(φ.at_ h).off + i]? = some v' ∧ RV φ n v v') ∧
      (∀ s, szOf P t = some s → φ.sz h = s) ∧
      (wr = true → t' = t ∧ (φ.at_ h).off + φ.room h ≤ cs'.size ∧ cs.length ≤ φ.room h ∧ (∀ i, i < cs'.size → ¬ (fr.1 ≤ i ∧ i < fr.2)) ∧ (soleT P t = true → (φ.at_ h).off = 0 ∧ cs'.size = cs.length))
  | .map es cl => ∃ r es', φ.at_ h = ⟨r, 0, none⟩ ∧ w.heap[r]? = some (.map es' cl) ∧ REs φ n es es'
  | .iter s p => ∃ r, φ.at_ h = ⟨r, 0, none⟩ ∧ w.heap[r]? = some (.stringIter s p)

structure RH (P : Program) (φ : PMap) (σ : St) (w : World) : Prop where
  objs : ∀ h o, σ.get h = some o → RO P φ σ.n h w o
  apart : ∀ h k o o', σ.get h = some o → σ.get k = some o' → own o = true → live o' = true → h ≠ k → (φ.at_ h).block ≠ (φ.at_ k).block

def OwnB (φ : PMap) (σ : St) (b : Nat) : Prop := ∃ h o, σ.get h = some o ∧ own o = true ∧ (φ.at_ h).block = b

structure Frm (φ : PMap) (σ : St) (w : World) (φ1 : PMap) (σ1 : St) (w1 : World) : Prop where
  ext : Ext φ φ1 σ.n
  n_le : σ.n ≤ σ1.n
  size_le : w.heap.size ≤ w1.heap.size
  os : w1.os = w.os
  tape : w1.tape = w.tape
  output : w1.output = w.output
  block : ∀ b, b < w.heap.size → ¬ OwnB φ σ b → w1.heap[b]? = w.heap[b]?
  own : ∀ b, OwnB φ1 σ1 b → w.heap.size ≤ b ∨ OwnB φ σ b
  lives : ∀ k x, σ1.get k = some x → live x = true → (k < σ.n ∧ ∃ x0, σ.get k = some x0 ∧ live x0 = true) ∨ (σ.n ≤ k ∧ (w.heap.size ≤ (φ1.at_ k).block ∨ OwnB φ σ (φ1.at_ k).block))

theorem Frm.refl (φ : PMap) (σ : St) (w : World) : Frm φ σ w φ σ w := ⟨Ext.refl _ _, Nat.le_refl _, Nat.le_refl _, rfl, rfl, rfl, fun _ _ _ => rfl, fun _ h => .inr h, fun k x hk hx => .inl ⟨St.get_lt hk, x, hk, hx⟩⟩
theorem Frm.trans {φ φ1 φ2 : PMap} {σ σ1 σ2 : St} {w w1 w2 : World} (h : Frm φ σ w φ1 σ1 w1) (h' : Frm φ1 σ1 w1 φ2 σ2 w2) : Frm φ σ w φ2 σ2 w2 where
  ext := h.ext.trans h.n_le h'.ext
  n_le := Nat.le_trans h.n_le h'.n_le
  size_le := Nat.le_trans h.size_le h'.size_le
  os := h'.os.trans h.os
  tape := h'.tape.trans h.tape
  output := h'.output.trans h.output
  block := fun b hb hn => by
    have hs := h.size_le
    refine (h'.block b (by omega) fun ho => ?_).trans (h.block b hb hn)
    rcases h.own b ho with h1 | h1
    · omega
    · exact hn h1
  own := fun b hb => by
    have hs := h.size_le
    rcases h'.own b hb with h1 | h1
    · exact .inl (by omega)
    · exact h.own b h1
  lives := fun k x hk hx => by
    have hs := h.size_le
    have hn := h.n_le
    rcases h'.lives k x hk hx with ⟨h1, x0, h2, h3⟩ | ⟨h1, h2⟩
    · rcases h.lives k x0 h2 h3 with h4 | ⟨h4, h5⟩
      · exact .inl h4
      · rw [← (h'.ext k h1).1] at h5
        exact .inr ⟨h4, h5⟩
    · rcases h2 with h2 | h2
      · exact .inr ⟨by omega, .inl (by omega)⟩
      · exact .inr ⟨by omega, h.own _ h2⟩

/-- The abstract run against the real one. -/
def Sim (P : Program) (φ : PMap) (σ : St) (w : World) {α β : Type} (A : PMap → Nat → α → β → Prop) (x : Option (α × St)) (s : Sem β) : Prop :=
  ∀ a σ1, x = some (a, σ1) → ∃ φ1 w1 b, s.run P w = .ok b w1 ∧ Frm φ σ w φ1 σ1 w1 ∧ RH P φ1 σ1 w1 ∧ A φ1 σ1.n a b

section
variable {P : Program} {φ : PMap} {σ : St} {w : World} {α α' β β' : Type} {A : PMap → Nat → α → α' → Prop} {B : PMap → Nat → β → β' → Prop}
theorem sim_bind {x : Sem α} {x' : Sem α'} {f : α → Sem β} {g : α' → Sem β'} (h : Sim P φ σ w A (arun P x σ) x')
    (hf : ∀ φ1 σ1 w1 a b, Frm φ σ w φ1 σ1 w1 → RH P φ1 σ1 w1 → A φ1 σ1.n a b → Sim P φ1 σ1 w1 B (arun P (f a) σ1) (g b)) :
    Sim P φ σ w B (arun P (x >>= f) σ) (x' >>= g) := by
  intro c σ2 hc
  rw [arun_bind, Option.bind_eq_some_iff] at hc
  obtain ⟨⟨a, σ1⟩, h1, h2⟩ := hc
  obtain ⟨φ1, w1, b, hr, hfr, hrh, ha⟩ := h a σ1 h1
  obtain ⟨φ2, w2, b2, hr2, hfr2, hrh2, ha2⟩ := hf φ1 σ1 w1 a b hfr hrh ha c σ2 h2
  exact ⟨φ2, w2, b2, by rw [Sem.run_bind, hr]; exact hr2, hfr.trans hfr2, hrh2, ha2⟩
theorem sim_pure (hr : RH P φ σ w) {a : α} {b : α'} (h : A φ σ.n a b) : Sim P φ σ w A (arun P (Pure.pure a : Sem α) σ) (Pure.pure b : Sem α') := by
  intro c σ1 hc
  rw [arun_pure] at hc
  injection hc with hc
  injection hc with h1 h2
  subst h1 h2
  exact ⟨φ, w, b, rfl, Frm.refl _ _ _, hr, h⟩
theorem sim_none {s : Sem α'} : Sim P φ σ w A (Option.none : Option (α × St)) s := fun _ _ h => by cases h
theorem sim_imp {A' : PMap → Nat → α → α' → Prop} {x : Option (α × St)} {s : Sem α'} (h : Sim P φ σ w A x s) (hi : ∀ φ n a b, A φ n a b → A' φ n a b) : Sim P φ σ w A' x s := fun a σ1 hx => by
  obtain ⟨φ1, w1, b, h1, h2, h3, h4⟩ := h a σ1 hx
  exact ⟨φ1, w1, b, h1, h2, h3, hi _ _ _ _ h4⟩
/-- What was related ahead is related behind. -/
theorem sim_after {A' : PMap → Nat → α → α' → Prop} {x : Option (α × St)} {s : Sem α'} (h : Sim P φ σ w A x s)
    (hi : ∀ φ1 σ1 w1 a b, Frm φ σ w φ1 σ1 w1 → A φ1 σ1.n a b → A' φ1 σ1.n a b) : Sim P φ σ w A' x s := fun a σ1 hx => by
  obtain ⟨φ1, w1, b, h1, h2, h3, h4⟩ := h a σ1 hx
  exact ⟨φ1, w1, b, h1, h2, h3, hi _ _ _ _ _ h2 h4⟩
end

theorem RV.frm {φ φ1 : PMap} {σ σ1 : St} {w w1 : World} (hf : Frm φ σ w φ1 σ1 w1) {v v' : Value} (h : RV φ σ.n v v') : RV φ1 σ1.n v v' := h.mono hf.ext hf.n_le
theorem RVl.frm {φ φ1 : PMap} {σ σ1 : St} {w w1 : World} (hf : Frm φ σ w φ1 σ1 w1) {v v' : List Value} (h : RVl φ σ.n v v') : RVl φ1 σ1.n v v' := h.mono hf.ext hf.n_le

def EqR {α : Type} : PMap → Nat → α → α → Prop := fun _ _ a b => a = b
def RVR : PMap → Nat → Value → Value → Prop := fun φ n a b => RV φ n a b

/-- A tree that looks at the program alone. -/
def Quiet {α : Type} : Sem α → Prop
  | .pure _ => True
  | .program k => ∀ p, Quiet (k p)
  | .mark _ k => Quiet k
  | .choose _ k => ∀ n, Quiet (k n)
  | .halt _ => True
  | _ => False
theorem quiet_bind {α β : Type} {s : Sem α} {f : α → Sem β} (h : Quiet s) (hf : ∀ a, Quiet (f a)) : Quiet (s >>= f) := by
  show Quiet (s.bind f)
  induction s with
  | pure a => exact hf a
  | program k ih => exact fun p => ih p (h p)
  | mark m k ih => exact ih h
  | choose q k ih => exact fun n => ih n (h n)
  | halt x => trivial
  | _ => exact h.elim
theorem quiet_sim {P : Program} {φ : PMap} {σ : St} {w : World} {α : Type} {s : Sem α} (h : Quiet s) (hr : RH P φ σ w) : Sim P φ σ w EqR (arun P s σ) s := by
  induction s with
  | pure a => exact sim_pure (A := EqR) hr rfl
  | program k ih => exact ih P (h P)
  | mark m k ih => exact ih h
  | choose q k ih =>
    intro a σ1 ha
    simp only [arun] at ha
    split at ha
    · rename_i hq
      obtain ⟨φ1, w1, b, h1, h2⟩ := ih 0 (h 0) a σ1 ha
      exact ⟨φ1, w1, b, by simp only [Sem.run, hq, if_true]; exact h1, h2⟩
    · cases ha
  | halt x => exact sim_none
  | _ => exact h.elim

end Go.AM
namespace Go.AM
open Go

theorem heap_set_at (w : World) {g i : Nat} {cs : Array Value} {t : TypeId} {fr : Nat × Nat} {v : Value} (hg : w.heap[g]? = some (.cells cs t fr)) :
    (w.setCell ⟨g, i, none⟩ v).heap[g]? = some (.cells (cs.setIfInBounds i v) t fr) := by
  simp [World.setCell, Array.getElem?_modify, hg]
theorem heap_set_ne (w : World) {g i k : Nat} {v : Value} (h : k ≠ g) : (w.setCell ⟨g, i, none⟩ v).heap[k]? = w.heap[k]? := by
  simp only [World.setCell, Array.getElem?_modify]
  rw [if_neg (fun e => h e.symm)]
theorem heap_set_size (w : World) (a : Addr) (v : Value) : (w.setCell a v).heap.size = w.heap.size := by simp [World.setCell]

def RA (φ : PMap) (n : Nat) (a a' : Addr) : Prop := ∃ h o, h < n ∧ (φ.at_ h).spot = none ∧ a = ⟨h, o, none⟩ ∧ a' = ⟨(φ.at_ h).block, (φ.at_ h).off + o, none⟩
theorem RA.rv {φ : PMap} {n : Nat} {a a' : Addr} (h : RA φ n a a') : RV φ n (.pointer (some a)) (.pointer (some a')) := by
  obtain ⟨h, o, h1, h2, rfl, rfl⟩ := h
  exact .ptr h o h1 h2
theorem RV.ra {φ : PMap} {n : Nat} {a : Addr} {v' : Value} (h : RV φ n (.pointer (some a)) v') : ∃ a', v' = .pointer (some a') ∧ RA φ n a a' := by
  cases h with
  | ptr h o h1 h2 => exact ⟨_, rfl, h, o, h1, h2, rfl, rfl⟩
theorem RA.mono {φ φ1 : PMap} {n n1 : Nat} {a a' : Addr} (h : RA φ n a a') (he : Ext φ φ1 n) (hn : n ≤ n1) : RA φ1 n1 a a' := by
  obtain ⟨h, o, h1, h2, rfl, rfl⟩ := h
  obtain ⟨e, _, _⟩ := he h h1
  exact ⟨h, o, by omega, by rw [e]; exact h2, rfl, by rw [e]⟩
theorem RA.frm {φ φ1 : PMap} {σ σ1 : St} {w w1 : World} (hf : Frm φ σ w φ1 σ1 w1) {a a' : Addr} (h : RA φ σ.n a a') : RA φ1 σ1.n a a' := h.mono hf.ext hf.n_le
theorem addr_add (b o i : Nat) : (⟨b, o, none⟩ : Addr).add i = ⟨b, o + i, none⟩ := by unfold Addr.add; split <;> simp_all
theorem RA.add {φ : PMap} {n : Nat} {a a' : Addr} (h : RA φ n a a') (i : Nat) : RA φ n (a.add i) (a'.add i) := by
  obtain ⟨h, o, h1, h2, rfl, rfl⟩ := h
  refine ⟨h, o + i, h1, h2, addr_add _ _ _, ?_⟩
  rw [addr_add, Nat.add_assoc]

section
variable {P : Program} {φ : PMap} {σ : St} {w : World}

theorem cell_of (hr : RH P φ σ w) {a a' : Addr} (ha : RA φ σ.n a a') {v : Value} (hv : σ.cell? a = some v) : ∃ v', w.cell? a' = some v' ∧ RV φ σ.n v v' := by
  obtain ⟨h, o, h1, h2, rfl, rfl⟩ := ha
  unfold St.cell? at hv
  split at hv
  · rename_i cs t wr hg
    obtain ⟨_, cs', t', fr, hh, hc, _⟩ := hr.objs h _ hg
    simp at hv
    obtain ⟨v', h3, h4⟩ := hc o v hv
    exact ⟨v', by simp [World.cell?, hh, h3], h4⟩
  · cases hv

theorem sim_load (hr : RH P φ σ w) {a a' : Addr} (ha : RA φ σ.n a a') (m : Mode) : Sim P φ σ w RVR (arun P (load a m) σ) (load a' m) := by
  intro v σ1 hv
  simp only [Go.load, arun] at hv
  split at hv
  · rename_i u hu
    injection hv with hv
    injection hv with e1 e2
    subst e1 e2
    obtain ⟨v', h1, h2⟩ := cell_of hr ha hu
    exact ⟨φ, w, v', by simp only [Go.load, Sem.run, h1], Frm.refl _ _ _, hr, h2⟩
  · cases hv

/-- An object of the call's own, at its handle, is another one now. -/
theorem RO.keep {w w1 : World} {n : Nat} {h : Nat} {o : AObj} (hb : w1.heap[(φ.at_ h).block]? = w.heap[(φ.at_ h).block]?) (ho : RO P φ n h w o) : RO P φ n h w1 o := by
  cases o with
  | dead => trivial
  | cells cs t wr =>
    obtain ⟨h1, cs', t', fr, h2, h3⟩ := ho
    exact ⟨h1, cs', t', fr, hb.trans h2, h3⟩
  | map es cl =>
    obtain ⟨r, es', h1, h2, h3⟩ := ho
    rw [h1] at hb
    exact ⟨r, es', h1, hb.trans h2, h3⟩
  | iter s p =>
    obtain ⟨r, h1, h2⟩ := ho
    rw [h1] at hb
    exact ⟨r, h1, hb.trans h2⟩
theorem RO.mono {φ1 : PMap} {n n1 : Nat} (he : Ext φ φ1 n) (hn : n ≤ n1) {h : Nat} (hh : h < n) {o : AObj} (ho : RO P φ n h w o) : RO P φ1 n1 h w o := by
  obtain ⟨e1, e2, e3⟩ := he h hh
  cases o with
  | dead => trivial
  | cells cs t wr =>
    obtain ⟨h1, cs', t', fr, h2, h3, h4, h4'⟩ := ho
    refine ⟨⟨by rw [e1]; exact h1.1, h1.2⟩, cs', t', fr, by rw [e1]; exact h2, fun i v hv => ?_, by rw [e3]; exact h4, by rw [e1, e2]; exact h4'⟩
    obtain ⟨v', h5, h6⟩ := h3 i v hv
    exact ⟨v', by rw [e1]; exact h5, h6.mono he hn⟩
  | map es cl =>
    obtain ⟨r, es', h1, h2, h3, h4⟩ := ho
    refine ⟨r, es', by rw [e1]; exact h1, h2, h3, fun i e hi => ?_⟩
    obtain ⟨e', h5, h6, h7, h8⟩ := h4 i e hi
    exact ⟨e', h5, h6, h7.mono he hn, h8.mono he hn⟩
  | iter s p =>
    obtain ⟨r, h1, h2⟩ := ho
    exact ⟨r, by rw [e1]; exact h1, h2⟩

/-- The state with one own object changed, the world with its block changed. -/
theorem RH.put (hr : RH P φ σ w) {h : Nat} {o o1 : AObj} {w1 : World} (hg : σ.get h = some o) (hown : own o = true) (hsize : w1.heap.size = w.heap.size) (hos : w1.os = w.os) (htape : w1.tape = w.tape) (hout : w1.output = w.output)
    (hne : ∀ b, b ≠ (φ.at_ h).block → w1.heap[b]? = w.heap[b]?) (ho1 : RO P φ σ.n h w1 o1) (hlt : (φ.at_ h).block < w.heap.size) :
    Frm φ σ w φ ((σ.put h o1).touch h) w1 ∧ RH P φ ((σ.put h o1).touch h) w1 := by
  have hl := St.get_lt hg
  have key : ∀ k x, ((σ.put h o1).touch h).get k = some x → (k = h ∧ x = o1) ∨ (k ≠ h ∧ σ.get k = some x) := by
    intro k x hx
    rw [St.get_touch, St.get_put σ o1 hl] at hx
    split at hx
    · injection hx with hx
      exact .inl ⟨by assumption, hx.symm⟩
    · exact .inr ⟨by assumption, hx⟩
  constructor
  · refine ⟨Ext.refl _ _, Nat.le_refl _, by omega, hos, htape, hout, fun b hb hnb => hne b fun e => hnb ⟨h, o, hg, hown, e.symm⟩, ?_, ?_⟩
    rintro b ⟨k, x, hk, hx, hb⟩
    rcases key k x hk with ⟨rfl, rfl⟩ | ⟨_, hk'⟩
    · exact .inr ⟨_, o, hg, hown, hb⟩
    · exact .inr ⟨k, x, hk', hx, hb⟩
    intro k x hk hx
    rcases key k x hk with ⟨rfl, rfl⟩ | ⟨_, hk'⟩
    · exact .inl ⟨hl, o, hg, live_of_own hown⟩
    · exact .inl ⟨St.get_lt hk', x, hk', hx⟩
  · constructor
    · intro k x hk
      rcases key k x hk with ⟨rfl, rfl⟩ | ⟨hne', hk'⟩
      · exact ho1
      · by_cases hlv : live x = true
        · exact RO.keep (hne _ (hr.apart h k o x hg hk' hown hlv (fun e => hne' e.symm)).symm) (hr.objs k x hk')
        · cases x <;> simp_all [live, RO]
    · intro k1 k2 x1 x2 h1 h2 hx1 hx2 hk
      rcases key k1 x1 h1 with ⟨rfl, rfl⟩ | ⟨hn1, h1'⟩ <;> rcases key k2 x2 h2 with ⟨rfl, rfl⟩ | ⟨hn2, h2'⟩
      · exact absurd rfl hk
      · exact hr.apart _ k2 o x2 hg h2' hown hx2 hk
      · exact hr.apart k1 _ x1 o h1' hg hx1 (live_of_own hown) hk
      · exact hr.apart k1 k2 x1 x2 h1' h2' hx1 hx2 hk

theorem sim_store (hr : RH P φ σ w) {a a' : Addr} (ha : RA φ σ.n a a') {v v' : Value} (hv : RV φ σ.n v v') (m : Mode) :
    Sim P φ σ w EqR (arun P (store a v m) σ) (store a' v' m) := by
  intro u σ1 hu
  simp only [Go.store, arun] at hu
  split at hu
  case h_2 => cases hu
  rename_i σ2 hs
  injection hu with hu
  injection hu with e1 e2
  subst e1 e2
  obtain ⟨h, o, h1, h2, rfl, rfl⟩ := ha
  unfold St.setCell? at hs
  split at hs
  case h_2 => cases hs
  rename_i cs t hg
  simp only [Option.isSome_none, Bool.false_eq_true, if_false] at hs
  split at hs
  case isFalse => cases hs
  rename_i hlt
  split at hs
  case isFalse => cases hs
  rename_i hone
  injection hs with hs
  subst hs
  obtain ⟨hsp, cs', t', fr, hh, hc, hsz, hw⟩ := hr.objs h _ hg
  obtain ⟨ht, hroom, hlen, hfr, hsole⟩ := hw rfl
  obtain ⟨u', hu1, _⟩ := hc o cs[o] (List.getElem?_eq_getElem hlt)
  have hin : (φ.at_ h).off + o < cs'.size := (Array.getElem?_eq_some_iff.1 hu1).1
  have hcell : w.cell? ⟨(φ.at_ h).block, (φ.at_ h).off + o, none⟩ = some u' := by simp [World.cell?, hh, hu1]
  have hfz : w.frozen? ⟨(φ.at_ h).block, (φ.at_ h).off + o, none⟩ = false := by
    have := hfr _ hin
    obtain ⟨lo, hi⟩ := fr
    simp only [World.frozen?, hh]
    simpa [Bool.and_eq_false_iff] using this
  have hrun : (Go.store ⟨(φ.at_ h).block, (φ.at_ h).off + o, none⟩ v' m).run P w = .ok () (w.setCell ⟨(φ.at_ h).block, (φ.at_ h).off + o, none⟩ v') := by
    have hone' := hv.one.trans hone
    cases v' <;> simp [Go.store, Sem.run, hcell, hfz, St.oneCell] at hone' ⊢
  have hblk : (φ.at_ h).block < w.heap.size := (Array.getElem?_eq_some_iff.1 hh).1
  have hall : (cs.set o v).all St.oneCell = true := by
    rw [List.all_eq_true]
    intro x hx
    rcases List.mem_or_eq_of_mem_set hx with h | h
    · exact List.all_eq_true.1 hsp.2 x h
    · rw [h]; exact hone
  have hcells : ∀ (i : Nat) (x : Value), (cs.set o v)[i]? = some x → ∃ x' : Value, (cs'.setIfInBounds ((φ.at_ h).off + o) v')[(φ.at_ h).off + i]? = some x' ∧ RV φ σ.n x x' := by
    intro i x hx
    rw [List.getElem?_set] at hx
    split at hx
    · rename_i e
      subst e
      injection hx with hx
      subst hx
      exact ⟨v', by simp [hin], hv⟩
    · rename_i e
      obtain ⟨x', h5, h6⟩ := hc i x hx
      refine ⟨x', ?_, h6⟩
      rw [Array.getElem?_setIfInBounds_ne (by omega)]
      exact h5
  obtain ⟨p1, p2⟩ := hr.put (w1 := w.setCell ⟨(φ.at_ h).block, (φ.at_ h).off + o, none⟩ v') (o1 := .cells (cs.set o v) t true) hg rfl (heap_set_size _ _ _) rfl rfl rfl (fun b hb => heap_set_ne w hb)
    ⟨⟨hsp.1, hall⟩, _, t', fr, heap_set_at w hh, hcells, hsz, fun _ => ⟨ht, by simpa using hroom, by simpa using hlen, by simpa using hfr, fun hs => by simpa using hsole hs⟩⟩ hblk
  exact ⟨φ, _, (), hrun, p1, p2, rfl⟩

/-- A new handle for a new block. -/
def PMap.new (φ : PMap) (n : Nat) (a : Addr) (room sz : Nat) : PMap := ⟨fun k => if k = n then a else φ.at_ k, fun k => if k = n then room else φ.room k, fun k => if k = n then sz else φ.sz k⟩
theorem PMap.new_ext (φ : PMap) (n : Nat) (a : Addr) (room sz : Nat) : Ext φ (φ.new n a room sz) n := fun h hh => by
  have : h ≠ n := by omega
  simp [PMap.new, this]

theorem RH.alloc (hr : RH P φ σ w) {o : AObj} {ob : Obj} (room sz : Nat) (hlv : live o = true) (hin : ∀ k x, σ.get k = some x → live x = true → (φ.at_ k).block < w.heap.size)
    (ho : RO P (φ.new σ.n ⟨w.heap.size, 0, none⟩ room sz) (σ.n + 1) σ.n (w.alloc ob) o) :
    Frm φ σ w (φ.new σ.n ⟨w.heap.size, 0, none⟩ room sz) (σ.alloc o) (w.alloc ob) ∧ RH P (φ.new σ.n ⟨w.heap.size, 0, none⟩ room sz) (σ.alloc o) (w.alloc ob) := by
  have hsz : (w.alloc ob).heap.size = w.heap.size + 1 := by show (w.heap.push ob).size = _; simp
  have hold : ∀ b, b < w.heap.size → (w.alloc ob).heap[b]? = w.heap[b]? := fun b hb => by
    show (w.heap.push ob)[b]? = _
    rw [Array.getElem?_push, if_neg (by omega)]
  have hat : ∀ k, k ≠ σ.n → (φ.new σ.n ⟨w.heap.size, 0, none⟩ room sz).at_ k = φ.at_ k := fun k hk => by simp [PMap.new, hk]
  have hatn : (φ.new σ.n ⟨w.heap.size, 0, none⟩ room sz).at_ σ.n = ⟨w.heap.size, 0, none⟩ := by simp [PMap.new]
  have key : ∀ k x, (σ.alloc o).get k = some x → (k = σ.n ∧ x = o) ∨ (k ≠ σ.n ∧ σ.get k = some x) := by
    intro k x hx
    rw [St.get_alloc] at hx
    split at hx
    · injection hx with hx
      exact .inl ⟨by assumption, hx.symm⟩
    · exact .inr ⟨by assumption, hx⟩
  constructor
  · refine ⟨PMap.new_ext _ _ _ _ _, Nat.le_succ _, by omega, rfl, rfl, rfl, fun b hb _ => hold b hb, ?_, ?_⟩
    rintro b ⟨k, x, hk, hx, rfl⟩
    rcases key k x hk with ⟨rfl, rfl⟩ | ⟨hne, hk'⟩
    · rw [hatn]
      exact .inl (Nat.le_refl _)
    · rw [hat k hne]
      exact .inr ⟨k, x, hk', hx, rfl⟩
    intro k x hk hx
    rcases key k x hk with ⟨rfl, rfl⟩ | ⟨hne, hk'⟩
    · exact .inr ⟨Nat.le_refl _, .inl (by rw [hatn]; exact Nat.le_refl _)⟩
    · exact .inl ⟨St.get_lt hk', x, hk', hx⟩
  · constructor
    · intro k x hk
      rcases key k x hk with ⟨rfl, rfl⟩ | ⟨hne, hk'⟩
      · exact ho
      · by_cases hl : live x = true
        · exact RO.mono (PMap.new_ext _ _ _ _ _) (Nat.le_succ _) (St.get_lt hk') (RO.keep (hold _ (hin k x hk' hl)) (hr.objs k x hk'))
        · cases x <;> simp_all [live, RO]
    · intro k1 k2 x1 x2 h1 h2 hx1 hx2 hk
      rcases key k1 x1 h1 with ⟨rfl, rfl⟩ | ⟨hn1, h1'⟩ <;> rcases key k2 x2 h2 with ⟨rfl, rfl⟩ | ⟨hn2, h2'⟩
      · exact absurd rfl hk
      · rw [hatn, hat k2 hn2]
        have := hin k2 x2 h2' hx2
        simp only
        omega
      · rw [hatn, hat k1 hn1]
        have := hin k1 x1 h1' (live_of_own hx1)
        simp only
        omega
      · rw [hat k1 hn1, hat k2 hn2]
        exact hr.apart k1 k2 x1 x2 h1' h2' hx1 hx2 hk
theorem RH.inside (hr : RH P φ σ w) : ∀ k x, σ.get k = some x → live x = true → (φ.at_ k).block < w.heap.size := by
  intro k x hk hl
  have h := hr.objs k x hk
  cases x with
  | dead => simp [live] at hl
  | cells cs t wr =>
    obtain ⟨_, cs', t', fr, hh, _⟩ := h
    exact (Array.getElem?_eq_some_iff.1 hh).1
  | map es cl =>
    obtain ⟨r, es', h1, h2, _⟩ := h
    rw [h1]
    exact (Array.getElem?_eq_some_iff.1 h2).1
  | iter s p =>
    obtain ⟨r, h1, h2⟩ := h
    rw [h1]
    exact (Array.getElem?_eq_some_iff.1 h2).1
end
end Go.AM
namespace Go.AM
open Go

section
variable {P : Program} {φ : PMap} {σ : St} {w : World}

theorem sim_newRow (hr : RH P φ σ w) (t : TypeId) {cs cs' : Array Value} (hc : RVl φ σ.n cs.toList cs'.toList) :
    Sim P φ σ w RA (arun P (newRow t cs) σ) (newRow t cs') := by
  intro a σ1 ha
  have e : arun P (newRow t cs) σ = if cs.toList.all St.oneCell then some (⟨σ.n, 0, none⟩, σ.alloc (.cells cs.toList t true)) else none := by
    show (match newObj? (.cells cs t) with | some ob => some ((⟨σ.n, 0, none⟩ : Addr), σ.alloc ob) | none => none) = _
    simp only [newObj?]
    split <;> simp_all
  rw [e] at ha
  split at ha
  case isFalse => cases ha
  rename_i hall
  injection ha with ha
  injection ha with h1 h2
  subst h1 h2
  have hl := hc.length
  have hatn : (φ.new σ.n ⟨w.heap.size, 0, none⟩ cs'.size ((szOf P t).getD 0)).at_ σ.n = ⟨w.heap.size, 0, none⟩ := by simp [PMap.new]
  have hro : RO P (φ.new σ.n ⟨w.heap.size, 0, none⟩ cs'.size ((szOf P t).getD 0)) (σ.n + 1) σ.n (w.alloc (.cells cs' t)) (.cells cs.toList t true) := by
    refine ⟨⟨by rw [hatn], hall⟩, cs', t, (0, 0), ?_, fun i v hv => ?_, fun s hs => ?_, fun _ => ⟨rfl, ?_, ?_, fun i _ h => ?_, fun _ => ⟨by rw [hatn], by simpa using hl.symm⟩⟩⟩
    · rw [hatn]
      show (w.heap.push _)[w.heap.size]? = _
      simp
    · obtain ⟨v', h1, h2⟩ := hc.get i hv
      refine ⟨v', by rw [hatn]; simpa using h1, h2.mono (PMap.new_ext _ _ _ _ _) (Nat.le_succ _)⟩
    · simp [PMap.new, hs]
    · simp [PMap.new]
    · simp [PMap.new]
      simpa using Nat.le_of_eq hl
    · simp at h
  obtain ⟨p1, p2⟩ := hr.alloc cs'.size ((szOf P t).getD 0) rfl hr.inside hro
  exact ⟨_, w.alloc (.cells cs' t), ⟨w.heap.size, 0, none⟩, rfl, p1, p2, σ.n, 0, Nat.lt_succ_self _, by rw [hatn], rfl, by rw [hatn]⟩

def RObj (φ : PMap) (n : Nat) : Obj → Obj → Prop
  | .map es cl, .map es' cl' => cl = cl' ∧ REs φ n es es'
  | .stringIter s p, .stringIter s' p' => s = s' ∧ p = p'
  | _, _ => False

theorem REs.mono {φ φ1 : PMap} {n n1 : Nat} {es es' : Array MapEntry} (h : REs φ n es es') (he : Ext φ φ1 n) (hn : n ≤ n1) : REs φ1 n1 es es' :=
  ⟨h.1, fun i e hi => by
    obtain ⟨e', h5, h6, h7, h8⟩ := h.2 i e hi
    exact ⟨e', h5, h6, h7.mono he hn, h8.mono he hn⟩⟩
theorem REs.nil_ {φ : PMap} {n : Nat} : REs φ n #[] #[] := ⟨rfl, fun i e hi => by simp at hi⟩

/-- A new map or iterator. -/
theorem sim_newObj (hr : RH P φ σ w) {o o' : Obj} (ho : RObj φ σ.n o o') :
    Sim P φ σ w (fun φ n h r => h < n ∧ φ.at_ h = ⟨r, 0, none⟩) (arun P (newObj o) σ) (newObj o') := by
  intro a σ1 ha
  cases o <;> cases o' <;> simp only [RObj] at ho <;> try exact ho.elim
  · rename_i es cl es' cl'
    obtain ⟨rfl, hes⟩ := ho
    have e : arun P (newObj (.map es cl)) σ = some (σ.n, σ.alloc (.map es cl)) := rfl
    rw [e] at ha
    injection ha with ha
    injection ha with h1 h2
    subst h1 h2
    have hatn : (φ.new σ.n ⟨w.heap.size, 0, none⟩ 0 0).at_ σ.n = ⟨w.heap.size, 0, none⟩ := by simp [PMap.new]
    have hro : RO P (φ.new σ.n ⟨w.heap.size, 0, none⟩ 0 0) (σ.n + 1) σ.n (w.alloc (.map es' cl)) (.map es cl) :=
      ⟨w.heap.size, es', hatn, by show (w.heap.push _)[w.heap.size]? = _; simp, hes.mono (PMap.new_ext _ _ _ _ _) (Nat.le_succ _)⟩
    obtain ⟨p1, p2⟩ := hr.alloc 0 0 rfl hr.inside hro
    exact ⟨_, w.alloc (.map es' cl), w.heap.size, rfl, p1, p2, Nat.lt_succ_self _, hatn⟩
  · rename_i s p s' p'
    obtain ⟨rfl, rfl⟩ := ho
    have e : arun P (newObj (.stringIter s p)) σ = some (σ.n, σ.alloc (.iter s p)) := rfl
    rw [e] at ha
    injection ha with ha
    injection ha with h1 h2
    subst h1 h2
    have hatn : (φ.new σ.n ⟨w.heap.size, 0, none⟩ 0 0).at_ σ.n = ⟨w.heap.size, 0, none⟩ := by simp [PMap.new]
    have hro : RO P (φ.new σ.n ⟨w.heap.size, 0, none⟩ 0 0) (σ.n + 1) σ.n (w.alloc (.stringIter s p)) (.iter s p) :=
      ⟨w.heap.size, hatn, by show (w.heap.push _)[w.heap.size]? = _; simp⟩
    obtain ⟨p1, p2⟩ := hr.alloc 0 0 rfl hr.inside hro
    exact ⟨_, w.alloc (.stringIter s p), w.heap.size, rfl, p1, p2, Nat.lt_succ_self _, hatn⟩

theorem sim_getObj (hr : RH P φ σ w) {h r : Nat} (hat : φ.at_ h = ⟨r, 0, none⟩) : Sim P φ σ w RObj (arun P (getObj h) σ) (getObj r) := by
  intro o σ1 ho
  simp only [Go.getObj, arun] at ho
  cases hg : σ.get h with
  | none => simp [hg] at ho
  | some x =>
    have hx := hr.objs h x hg
    cases x with
    | dead => simp [hg, asObj?] at ho
    | cells cs t wr => simp [hg, asObj?] at ho
    | map es cl =>
      simp only [hg, Option.bind_some, asObj?] at ho
      injection ho with ho
      injection ho with h1 h2
      subst h1 h2
      obtain ⟨r', es', h1, h2, h3⟩ := hx
      rw [hat] at h1
      obtain rfl : r = r' := by injection h1
      exact ⟨φ, w, .map es' cl, by simp [Go.getObj, Sem.run, h2], Frm.refl _ _ _, hr, rfl, h3⟩
    | iter s p =>
      simp only [hg, Option.bind_some, asObj?] at ho
      injection ho with ho
      injection ho with h1 h2
      subst h1 h2
      obtain ⟨r', h1, h2⟩ := hx
      rw [hat] at h1
      obtain rfl : r = r' := by injection h1
      exact ⟨φ, w, .stringIter s p, by simp [Go.getObj, Sem.run, h2], Frm.refl _ _ _, hr, rfl, rfl⟩

theorem heap_setObj_at (w : World) {r : Nat} {o x : Obj} (h : w.heap[r]? = some x) : ({ w with heap := w.heap.setIfInBounds r o } : World).heap[r]? = some o := by
  have hlt := (Array.getElem?_eq_some_iff.1 h).1
  simp [hlt]
theorem heap_setObj_ne (w : World) {r b : Nat} {o : Obj} (h : b ≠ r) : ({ w with heap := w.heap.setIfInBounds r o } : World).heap[b]? = w.heap[b]? := by
  simp only
  rw [Array.getElem?_setIfInBounds_ne (fun e => h e.symm)]

theorem sim_setObj (hr : RH P φ σ w) {h r : Nat} (hat : φ.at_ h = ⟨r, 0, none⟩) {o o' : Obj} (ho : RObj φ σ.n o o') : Sim P φ σ w EqR (arun P (setObj h o) σ) (setObj r o') := by
  intro u σ1 hu
  simp only [Go.setObj, arun] at hu
  cases hg : σ.get h with
  | none => simp [hg] at hu
  | some x =>
    have hx := hr.objs h x hg
    simp only [hg, Option.bind_some] at hu
    split at hu
    case h_2 => cases hu
    rename_i ob hob
    injection hu with hu
    injection hu with h1 h2
    subst h1 h2
    have hblk : (φ.at_ h).block = r := by rw [hat]
    cases x <;> cases o <;> simp only [setObj?] at hob <;> try cases hob
    · rename_i es0 cl0 es cl
      cases o' <;> simp only [RObj] at ho <;> try exact ho.elim
      rename_i es' cl'
      obtain ⟨rfl, hes⟩ := ho
      obtain ⟨r', es0', h1, h2, h3⟩ := hx
      rw [hat] at h1
      obtain rfl : r = r' := by injection h1
      have hlt := (Array.getElem?_eq_some_iff.1 h2).1
      obtain ⟨p1, p2⟩ := hr.put (w1 := { w with heap := w.heap.setIfInBounds r (.map es' cl) }) (o1 := .map es cl) hg rfl (by simp) rfl rfl rfl (fun b hb => heap_setObj_ne w (by rw [hblk] at hb; exact hb))
        ⟨r, es', hat, heap_setObj_at w h2, hes⟩ (by rw [hblk]; exact hlt)
      exact ⟨φ, _, (), by simp [Go.setObj, Sem.run, h2], p1, p2, rfl⟩
    · rename_i s0 p0 s p
      cases o' <;> simp only [RObj] at ho <;> try exact ho.elim
      rename_i s' p'
      obtain ⟨rfl, rfl⟩ := ho
      obtain ⟨r', h1, h2⟩ := hx
      rw [hat] at h1
      obtain rfl : r = r' := by injection h1
      have hlt := (Array.getElem?_eq_some_iff.1 h2).1
      obtain ⟨p1, p2⟩ := hr.put (w1 := { w with heap := w.heap.setIfInBounds r (.stringIter s p) }) (o1 := .iter s p) hg rfl (by simp) rfl rfl rfl (fun b hb => heap_setObj_ne w (by rw [hblk] at hb; exact hb))
        ⟨r, hat, heap_setObj_at w h2⟩ (by rw [hblk]; exact hlt)
      exact ⟨φ, _, (), by simp [Go.setObj, Sem.run, h2], p1, p2, rfl⟩

/-! ### trees that look at the program alone -/
theorem quiet_pure {α : Type} (a : α) : Quiet (pure a : Sem α) := trivial
theorem quiet_program : Quiet program := fun _ => trivial
theorem quiet_stuck {α : Type} (s : String) : Quiet (stuck s : Sem α) := trivial
theorem quiet_unsupported {α : Type} (u : Unsupported) : Quiet (unsupported u : Sem α) := trivial
theorem quiet_typeInfo (t : TypeId) : Quiet (typeInfo t) := quiet_bind quiet_program fun p => by split <;> trivial
theorem quiet_underlying (t : TypeId) : Quiet (underlying t) := quiet_bind quiet_program fun p => by split <;> trivial
theorem quiet_sizeOf (t : TypeId) : Quiet (sizeOf t) := quiet_bind (quiet_typeInfo t) fun _ => trivial
theorem quiet_isAgg (t : TypeId) : Quiet (isAgg t) := quiet_bind (quiet_underlying t) fun d => by split <;> trivial
theorem quiet_asInt (v : Value) : Quiet (asIntOf v) := by cases v <;> first | trivial | (rename_i a; cases a <;> trivial)

theorem sim_stuck {α α' : Type} {A : PMap → Nat → α → α' → Prop} (s : String) (x : Sem α') : Sim P φ σ w A (arun P (stuck s : Sem α) σ) x := sim_none
theorem sim_unsup {α α' : Type} {A : PMap → Nat → α → α' → Prop} (u : Unsupported) (x : Sem α') : Sim P φ σ w A (arun P (unsupported u : Sem α) σ) x := sim_none

/-! ### cells in line -/
theorem loadCellsFrom_sim (a a' : Addr) (k : Nat) : ∀ (i : Nat) (acc acc' : Array Value) (φ : PMap) (σ : St) (w : World), RH P φ σ w → RA φ σ.n a a' → RVl φ σ.n acc.toList acc'.toList →
    Sim P φ σ w (fun φ n x y => RVl φ n x.toList y.toList) (arun P (loadCellsFrom a i k acc) σ) (loadCellsFrom a' i k acc') := by
  induction k with
  | zero => intro i acc acc' φ σ w hr ha hc; exact sim_pure (A := fun φ n (x y : Array Value) => RVl φ n x.toList y.toList) hr hc
  | succ k ih =>
    intro i acc acc' φ σ w hr ha hc
    refine sim_bind (sim_load hr (ha.add i) .plain) fun φ1 σ1 w1 v v' hf hr1 hv => ?_
    exact ih (i + 1) _ _ φ1 σ1 w1 hr1 (ha.frm hf) (by simpa using (hc.frm hf).append (.cons hv .nil))
theorem sim_loadCells (hr : RH P φ σ w) {a a' : Addr} (ha : RA φ σ.n a a') (k : Nat) :
    Sim P φ σ w (fun φ n x y => RVl φ n x.toList y.toList) (arun P (loadCells a k) σ) (loadCells a' k) := loadCellsFrom_sim a a' k 0 #[] #[] φ σ w hr ha .nil
theorem storeCells_sim (a a' : Addr) (vs : List Value) : ∀ (vs' : List Value) (i : Nat) (φ : PMap) (σ : St) (w : World), RH P φ σ w → RA φ σ.n a a' → RVl φ σ.n vs vs' →
    Sim P φ σ w EqR (arun P (storeCells a vs i) σ) (storeCells a' vs' i) := by
  induction vs with
  | nil => intro vs' i φ σ w hr ha hv; cases hv; exact sim_pure (A := EqR) hr rfl
  | cons v vs ih =>
    intro vs' i φ σ w hr ha hv
    cases hv with
    | cons h1 h2 =>
      refine sim_bind (sim_store hr (ha.add i) h1 .plain) fun φ1 σ1 w1 _ _ hf hr1 _ => ?_
      exact ih _ (i + 1) φ1 σ1 w1 hr1 (ha.frm hf) (h2.frm hf)
theorem sim_storeCells (hr : RH P φ σ w) {a a' : Addr} (ha : RA φ σ.n a a') {vs vs' : List Value} (hv : RVl φ σ.n vs vs') : Sim P φ σ w EqR (arun P (storeCells a vs) σ) (storeCells a' vs') := storeCells_sim a a' vs vs' 0 φ σ w hr ha hv

theorem sim_loadVar (hr : RH P φ σ w) (t : TypeId) {a a' : Addr} (ha : RA φ σ.n a a') : Sim P φ σ w RVR (arun P (loadVar t a) σ) (loadVar t a') := by
  unfold loadVar
  refine sim_bind (quiet_sim (quiet_isAgg t) hr) fun φ1 σ1 w1 b b' hf hr1 hb => ?_
  obtain rfl : b = b' := hb
  cases b with
  | false => exact sim_load hr1 (ha.frm hf) .plain
  | true =>
    refine sim_bind (quiet_sim (quiet_sizeOf t) hr1) fun φ2 σ2 w2 k k' hf2 hr2 hk => ?_
    obtain rfl : k = k' := hk
    refine sim_bind (sim_loadCells hr2 ((ha.frm hf).frm hf2) k) fun φ3 σ3 w3 x y hf3 hr3 hx => ?_
    exact sim_pure (A := RVR) hr3 (.agg hx)
theorem sim_storeVar (hr : RH P φ σ w) (t : TypeId) {a a' : Addr} (ha : RA φ σ.n a a') {v v' : Value} (hv : RV φ σ.n v v') : Sim P φ σ w EqR (arun P (storeVar t a v) σ) (storeVar t a' v') := by
  unfold storeVar
  refine sim_bind (quiet_sim (quiet_sizeOf t) hr) fun φ1 σ1 w1 k k' hf hr1 hk => ?_
  obtain rfl : k = k' := hk
  have hc := (hv.frm hf).cells
  have hl : v'.cells.size = v.cells.size := by simpa using hc.length.symm
  rw [hl]
  split
  · exact sim_none
  · exact sim_storeCells hr1 (ha.frm hf) hc
theorem sim_newVar (hr : RH P φ σ w) (t : TypeId) {v v' : Value} (hv : RV φ σ.n v v') : Sim P φ σ w RA (arun P (newVar t v) σ) (newVar t v') := sim_newRow hr t hv.cells
end
end Go.AM
namespace Go.AM
open Go

/-- The zero values of the program's types hold no address. -/
def cleanLeaf : Value → Bool
  | .bool _ | .int .. | .string _ | .pointer none | .slice none 0 0 | .map none | .float .. | .complex .. | .chan none | .nilFunc | .nilIface => true
  | _ => false
def cleanV : Value → Bool
  | .agg cs => cs.toList.all cleanLeaf
  | v => cleanLeaf v
theorem rv_leaf {v : Value} (h : cleanLeaf v = true) (φ : PMap) (n : Nat) : RV φ n v v := by
  unfold cleanLeaf at h
  split at h <;> first | contradiction | constructor
theorem rvl_leafs {l : List Value} (h : l.all cleanLeaf = true) (φ : PMap) (n : Nat) : RVl φ n l l := by
  induction l with
  | nil => exact .nil
  | cons x l ih =>
    simp only [List.all_cons, Bool.and_eq_true] at h
    exact .cons (rv_leaf h.1 φ n) (ih h.2)
theorem rv_clean {v : Value} (h : cleanV v = true) (φ : PMap) (n : Nat) : RV φ n v v := by
  unfold cleanV at h
  split at h
  · exact .agg (rvl_leafs h φ n)
  · exact rv_leaf h φ n
def zchk (P : Program) (t : TypeId) : Bool := match (P.info? t).bind (·.zero) with | some z => cleanV z | none => true

/-- The same value, without an address in it. -/
def CleanR : PMap → Nat → Value → Value → Prop := fun _ _ a b => a = b ∧ cleanV a = true

section
variable {P : Program} {φ : PMap} {σ : St} {w : World}

theorem sim_zero (hr : RH P φ σ w) {t : TypeId} (hz : zchk P t = true) : Sim P φ σ w CleanR (arun P (zeroValue t) σ) (zeroValue t) := by
  intro z σ1 h
  have hq : Quiet (zeroValue t) := quiet_bind (quiet_typeInfo t) fun i => by split <;> trivial
  obtain ⟨φ1, w1, b, h1, h2, h3, h4⟩ := quiet_sim hq hr z σ1 h
  obtain rfl : z = b := h4
  refine ⟨φ1, w1, z, h1, h2, h3, rfl, ?_⟩
  cases hi : P.info? t with
  | none => simp [zeroValue, typeInfo, program, hi, arun_bind, arun, stuck] at h
  | some i =>
    cases hzz : i.zero with
    | none => simp [zeroValue, typeInfo, program, hi, hzz, arun_bind, arun, arun_pure, unsupported] at h
    | some z' =>
      simp [zeroValue, typeInfo, program, hi, hzz, arun_bind, arun, arun_pure] at h
      rw [← h.1]
      simpa [zchk, hi, hzz] using hz

theorem sim_info (hr : RH P φ σ w) (t : TypeId) : Sim P φ σ w (fun _ _ a b => a = b ∧ P.info? t = some a) (arun P (typeInfo t) σ) (typeInfo t) := by
  intro i σ1 h
  obtain ⟨φ1, w1, b, h1, h2, h3, h4⟩ := quiet_sim (quiet_typeInfo t) hr i σ1 h
  refine ⟨φ1, w1, b, h1, h2, h3, h4, ?_⟩
  cases hi : P.info? t with
  | none => simp [typeInfo, program, hi, arun_bind, arun, stuck] at h
  | some x =>
    simp [typeInfo, program, hi, arun_bind, arun, arun_pure] at h
    rw [h.1]
theorem sim_und (hr : RH P φ σ w) (t : TypeId) : Sim P φ σ w (fun _ _ a b => a = b ∧ P.underlying t = some a) (arun P (underlying t) σ) (underlying t) := by
  intro i σ1 h
  obtain ⟨φ1, w1, b, h1, h2, h3, h4⟩ := quiet_sim (quiet_underlying t) hr i σ1 h
  refine ⟨φ1, w1, b, h1, h2, h3, h4, ?_⟩
  cases hi : P.underlying t with
  | none => simp [underlying, program, hi, arun_bind, arun, stuck] at h
  | some x =>
    simp [underlying, program, hi, arun_bind, arun, arun_pure] at h
    rw [h.1]
theorem sim_size (hr : RH P φ σ w) (t : TypeId) : Sim P φ σ w (fun _ _ a b => a = b ∧ szOf P t = some a) (arun P (sizeOf t) σ) (sizeOf t) := by
  unfold sizeOf
  refine sim_bind (sim_info hr t) fun φ1 σ1 w1 a b hf hr1 ⟨e, hi⟩ => ?_
  subst e
  exact sim_pure (A := fun _ _ a b => a = b ∧ szOf P t = some a) hr1 ⟨rfl, by simp [szOf, hi]⟩

theorem und_step {α β : Type} {B : PMap → Nat → α → β → Prop} {f : TypeDesc → Sem α} {g : TypeDesc → Sem β} {t : TypeId} (h : ∀ d, P.underlying t = some d → Sim P φ σ w B (arun P (f d) σ) (g d)) :
    Sim P φ σ w B (arun P (underlying t >>= f) σ) (underlying t >>= g) := by
  cases hu : P.underlying t with
  | none =>
    intro r σ9 h9
    simp [underlying, program, arun_bind, arun, hu, stuck] at h9
  | some d =>
    have e1 : arun P (underlying t >>= f) σ = arun P (f d) σ := by simp [underlying, program, arun_bind, arun, hu, arun_pure]
    intro r σ9 h9
    rw [e1] at h9
    obtain ⟨φ1, w1, b, h1, h2⟩ := h d hu r σ9 h9
    refine ⟨φ1, w1, b, ?_, h2⟩
    rw [Sem.run_bind]
    have e2 : (underlying t).run P w = .ok d w := by simp [underlying, program, hu, Sem.run]
    rw [e2]
    exact h1
theorem info_step {α β : Type} {B : PMap → Nat → α → β → Prop} {f : TypeInfo → Sem α} {g : TypeInfo → Sem β} {t : TypeId} (h : ∀ d, P.info? t = some d → Sim P φ σ w B (arun P (f d) σ) (g d)) :
    Sim P φ σ w B (arun P (typeInfo t >>= f) σ) (typeInfo t >>= g) := by
  cases hu : P.info? t with
  | none =>
    intro r σ9 h9
    simp [typeInfo, program, arun_bind, arun, hu, stuck] at h9
  | some d =>
    have e1 : arun P (typeInfo t >>= f) σ = arun P (f d) σ := by simp [typeInfo, program, arun_bind, arun, hu, arun_pure]
    intro r σ9 h9
    rw [e1] at h9
    obtain ⟨φ1, w1, b, h1, h2⟩ := h d hu r σ9 h9
    refine ⟨φ1, w1, b, ?_, h2⟩
    rw [Sem.run_bind]
    have e2 : (typeInfo t).run P w = .ok d w := by simp [typeInfo, program, hu, Sem.run]
    rw [e2]
    exact h1
theorem size_step {α β : Type} {B : PMap → Nat → α → β → Prop} {f : Nat → Sem α} {g : Nat → Sem β} {t : TypeId} (h : ∀ d, szOf P t = some d → Sim P φ σ w B (arun P (f d) σ) (g d)) :
    Sim P φ σ w B (arun P (sizeOf t >>= f) σ) (sizeOf t >>= g) := by
  unfold sizeOf
  simp only [bind_assoc, pure_bind]
  exact info_step fun d hd => h d.size (by simp [szOf, hd])

theorem sim_ptr {s : Sem Addr} {s' : Sem Addr} (h : Sim P φ σ w RA (arun P s σ) s') :
    Sim P φ σ w RVR (arun P (do pure (.pointer (some (← s)))) σ) (do pure (.pointer (some (← s')))) :=
  sim_bind h fun φ1 σ1 w1 a b _ hr1 hab => sim_pure (A := RVR) hr1 hab.rv

/-! ### alloc, box -/
theorem sim_alloc (hr : RH P φ σ w) {t : TypeId} (hz : zchk P t = true) : Sim P φ σ w RVR (arun P (Instr.alloc t true (.tuple #[])) σ) (Instr.alloc t true (.tuple #[])) := by
  unfold Instr.alloc
  refine sim_bind (sim_zero hr hz) fun φ1 σ1 w1 z z' hf hr1 ⟨e, hc⟩ => ?_
  subst e
  exact sim_ptr (sim_newVar hr1 t (rv_clean hc _ _))
theorem sim_box (hr : RH P φ σ w) (t : TypeId) {v v' : Value} (hv : RV φ σ.n v v') : Sim P φ σ w RVR (arun P (Instr.box t v) σ) (Instr.box t v') := sim_ptr (sim_newVar hr t hv)

/-! ### build -/
def RParts (φ : PMap) (n : Nat) (l l' : List (Nat × Value)) : Prop := l.length = l'.length ∧ ∀ (i : Nat) (x : Nat × Value), l[i]? = some x → ∃ x' : Nat × Value, l'[i]? = some x' ∧ x'.1 = x.1 ∧ RV φ n x.2 x'.2
theorem RParts.frm {φ φ1 : PMap} {σ σ1 : St} {w w1 : World} (hf : Frm φ σ w φ1 σ1 w1) {l l' : List (Nat × Value)} (h : RParts φ σ.n l l') : RParts φ1 σ1.n l l' :=
  ⟨h.1, fun i x hx => by
    obtain ⟨x', a, b, c⟩ := h.2 i x hx
    exact ⟨x', a, b, c.frm hf⟩⟩
theorem rparts_of {ρ ρ' : Operand → Value} {n : Nat} (parts : Array (Nat × Operand)) (h : ∀ p, p ∈ parts.toList → RV φ n (ρ p.2) (ρ' p.2)) :
    RParts φ n (parts.map fun (i, x) => (i, ρ x)).toList (parts.map fun (i, x) => (i, ρ' x)).toList := by
  refine ⟨by simp, fun i x hx => ?_⟩
  simp only [Array.toList_map, List.getElem?_map] at hx ⊢
  cases hp : parts.toList[i]? with
  | none => simp [hp] at hx
  | some p =>
    simp [hp] at hx
    subst hx
    exact ⟨_, rfl, rfl, h p (List.mem_of_getElem? hp)⟩

theorem fold_set {n : Nat} (off : Nat) : ∀ (l l' : List Value) (k : Nat) (cs cs' : Array Value), RVl φ n l l' → RVl φ n cs.toList cs'.toList →
    RVl φ n ((l.zipIdx k).foldl (fun cs (c, j) => cs.setIfInBounds (off + j) c) cs).toList ((l'.zipIdx k).foldl (fun cs (c, j) => cs.setIfInBounds (off + j) c) cs').toList := by
  intro l
  induction l with
  | nil => intro l' k cs cs' h hc; cases h; exact hc
  | cons x l ih =>
    intro l' k cs cs' h hc
    cases h with
    | cons hx hl =>
      simp only [List.zipIdx_cons, List.foldl_cons]
      exact ih _ (k + 1) _ _ hl (by simpa using hc.set (off + k) hx)
theorem fold_zip (f : Array Value → Value × Nat → Array Value) (cs a : Array Value) : a.zipIdx.foldl f cs = (a.toList.zipIdx).foldl f cs := by
  rw [← Array.foldl_toList, Array.toList_zipIdx]

theorem fill_rel {n : Nat} (place : Nat → Option (Nat × Nat)) : ∀ (ps ps' : List (Nat × Value)) (cs cs' r : Array Value), RParts φ n ps ps' → RVl φ n cs.toList cs'.toList → Instr.fill place cs ps = some r →
    ∃ r', Instr.fill place cs' ps' = some r' ∧ RVl φ n r.toList r'.toList := by
  intro ps
  induction ps with
  | nil =>
    intro ps' cs cs' r hp hc h
    cases ps' with
    | nil =>
      simp only [Instr.fill, Option.some.injEq] at h ⊢
      subst h
      exact ⟨cs', rfl, hc⟩
    | cons => simp [RParts] at hp
  | cons x ps ih =>
    intro ps' cs cs' r hp hc h
    cases ps' with
    | nil => simp [RParts] at hp
    | cons x' ps' =>
      obtain ⟨i, v⟩ := x
      obtain ⟨i', v'⟩ := x'
      obtain ⟨y, hy, hi, hv⟩ := hp.2 0 _ rfl
      simp at hy
      subst hy
      simp only at hi hv
      subst hi
      have hp' : RParts φ n ps ps' := ⟨by simpa using hp.1, fun j z hz => by simpa using hp.2 (j + 1) z (by simpa using hz)⟩
      have hs : v'.cells.size = v.cells.size := by simpa using hv.cells.length.symm
      have hcs : cs'.size = cs.size := by simpa using hc.length.symm
      simp only [Instr.fill] at h ⊢
      cases hpl : place i' with
      | none => simp [hpl] at h
      | some q =>
        obtain ⟨off, size⟩ := q
        simp only [hpl] at h ⊢
        rw [hs, hcs]
        split at h
        · cases h
        · rename_i hcond
          rw [if_neg hcond]
          refine ih _ _ _ _ hp' ?_ h
          rw [fold_zip, fold_zip]
          exact fold_set off _ _ 0 _ _ hv.cells hc

theorem quiet_mapM {α β : Type} {f : α → Sem β} (hf : ∀ a, Quiet (f a)) : ∀ l : List α, Quiet (l.mapM f) := by
  intro l
  induction l with
  | nil => rw [List.mapM_nil]; trivial
  | cons x l ih =>
    rw [List.mapM_cons]
    exact quiet_bind (hf x) fun _ => quiet_bind ih fun _ => trivial
theorem quiet_mapMA {α β : Type} {f : α → Sem β} (hf : ∀ a, Quiet (f a)) (l : Array α) : Quiet (l.mapM f) := by
  rw [Array.mapM_eq_mapM_toList]
  exact quiet_bind (quiet_mapM hf _) fun _ => trivial

theorem sim_build (hr : RH P φ σ w) {t : TypeId} (hz : zchk P t = true) {ps ps' : Array (Nat × Value)} (hp : RParts φ σ.n ps.toList ps'.toList) :
    Sim P φ σ w RVR (arun P (Instr.build t ps) σ) (Instr.build t ps') := by
  unfold Instr.build
  refine sim_bind (sim_zero hr hz) ?_
  · rintro φ1 σ1 w1 z0 z0' hf hr1 ⟨rfl, hc0⟩
    have hc : z0.cells.toList.all cleanLeaf = true := by cases z0 <;> first | exact hc0 | (simp only [Value.cells]; simpa [cleanV] using hc0)
    dsimp only
    generalize z0.cells = z at hc
    refine sim_bind (sim_und hr1 t) fun φ2 σ2 w2 d d' hf2 hr2 ⟨hd, _⟩ => ?_
    obtain rfl : d = d' := hd
    have hp2 := (hp.frm hf).frm hf2
    split
    · refine sim_bind (quiet_sim (quiet_mapMA (fun f => quiet_bind (quiet_sizeOf _) fun _ => quiet_pure _) _) hr2) fun φ3 σ3 w3 pl pl' hf3 hr3 hpl => ?_
      obtain rfl : pl = pl' := hpl
      have hp3 := hp2.frm hf3
      cases hfl : Instr.fill (fun i => pl[i]?) z ps.toList with
      | none => exact sim_stuck _ _
      | some r =>
        obtain ⟨r', h1, h2⟩ := fill_rel (fun i => pl[i]?) ps.toList ps'.toList z z r hp3 (rvl_leafs hc _ _) hfl
        rw [h1]
        exact sim_pure (A := RVR) hr3 (.agg h2)
    · refine sim_bind (sim_size hr2 _) fun φ3 σ3 w3 k k' hf3 hr3 ⟨hk, _⟩ => ?_
      obtain rfl : k = k' := hk
      have hp3 := hp2.frm hf3
      cases hfl : Instr.fill (fun i => some (i * k, k)) z ps.toList with
      | none => exact sim_stuck _ _
      | some r =>
        obtain ⟨r', h1, h2⟩ := fill_rel (fun i => some (i * k, k)) ps.toList ps'.toList z z r hp3 (rvl_leafs hc _ _) hfl
        rw [h1]
        exact sim_pure (A := RVR) hr3 (.agg h2)
    · exact sim_stuck _ _
end
end Go.AM
namespace Go.AM
open Go

section
variable {P : Program} {φ : PMap} {σ : St} {w : World}

theorem clean_leafs {z : Value} (hc : cleanV z = true) : z.cells.toList.all cleanLeaf = true := by
  cases z <;> first | exact hc | (simp only [Value.cells]; simpa [cleanV] using hc)
theorem rvl_range {n : Nat} {z : Array Value} (h : z.toList.all cleanLeaf = true) (k : Nat) :
    RVl φ n ((Array.range k).map (z[· % z.size]!)).toList ((Array.range k).map (z[· % z.size]!)).toList := by
  refine rvl_leafs (List.all_eq_true.2 fun x hx => ?_) φ n
  simp only [Array.toList_map, List.mem_map] at hx
  obtain ⟨i, _, rfl⟩ := hx
  by_cases hi : i % z.size < z.size
  · rw [getElem!_pos z _ hi]
    exact List.all_eq_true.1 h _ (by simp)
  · rw [getElem!_neg z _ hi]
    rfl

theorem sim_buildSlice (hr : RH P φ σ w) {t : TypeId} (hz : ∀ e, P.underlying t = some (.slice e) → zchk P e = true) (len : Nat) {ps ps' : Array (Nat × Value)} (hp : RParts φ σ.n ps.toList ps'.toList) :
    Sim P φ σ w RVR (arun P (Instr.buildSlice t len ps) σ) (Instr.buildSlice t len ps') := by
  unfold Instr.buildSlice
  refine sim_bind (sim_und hr t) fun φ1 σ1 w1 d d' hf hr1 ⟨hd, hu⟩ => ?_
  subst hd
  split
  case h_2 => exact sim_stuck _ _
  rename_i e _
  have hze := hz e hu
  refine sim_bind (sim_size hr1 e) fun φ2 σ2 w2 k k' hf2 hr2 ⟨hk, hsz⟩ => ?_
  subst hk
  have hp2 := (hp.frm hf).frm hf2
  have key : ∀ (z : Array Value), z.toList.all cleanLeaf = true → ∀ φ3 σ3 w3, Frm φ2 σ2 w2 φ3 σ3 w3 → RH P φ3 σ3 w3 →
      Sim P φ3 σ3 w3 RVR (arun P (do
        let some cells := Instr.fill (fun i => some (i * k, k)) ((Array.range (len * k)).map (z[· % z.size]!)) ps.toList | stuck "buildSlice: a part of the wrong size"
        pure (.slice (some (← newRow e cells)) len len)) σ3) (do
        let some cells := Instr.fill (fun i => some (i * k, k)) ((Array.range (len * k)).map (z[· % z.size]!)) ps'.toList | stuck "buildSlice: a part of the wrong size"
        pure (.slice (some (← newRow e cells)) len len)) := by
    intro z hzl φ3 σ3 w3 hf3 hr3
    have hp3 := hp2.frm hf3
    cases hfl : Instr.fill (fun i => some (i * k, k)) ((Array.range (len * k)).map (z[· % z.size]!)) ps.toList with
    | none => exact sim_stuck _ _
    | some r =>
      obtain ⟨r', h1, h2⟩ := fill_rel (fun i => some (i * k, k)) ps.toList ps'.toList _ _ r hp3 (rvl_range hzl _) hfl
      rw [h1]
      refine sim_bind (sim_newRow hr3 e h2) fun φ4 σ4 w4 a b hf4 hr4 hab => ?_
      obtain ⟨h, o, g1, g2, rfl, rfl⟩ := hab
      exact sim_pure (A := RVR) hr4 (.slice h o _ len len len g1 g2 (fun _ => rfl) (Nat.le_refl _) (Nat.le_refl _) (.inl rfl))
  dsimp only
  by_cases hbig : len * k > 2 ^ 24
  · rw [if_pos hbig, if_pos hbig]
    exact sim_none
  · rw [if_neg hbig, if_neg hbig]
    by_cases h0 : len * k = 0
    · rw [if_pos h0, if_pos h0]
      exact key #[] rfl _ _ _ (Frm.refl _ _ _) hr2
    · rw [if_neg h0, if_neg h0]
      refine sim_bind (sim_zero hr2 hze) fun φ3 σ3 w3 z z' hf3 hr3 ⟨hzz, hc⟩ => ?_
      subst hzz
      exact key z.cells (clean_leafs hc) _ _ _ hf3 hr3

/-! ### addresses -/
theorem sim_sure (hr : RH P φ σ w) {x x' : Value} (hx : RV φ σ.n x x') : Sim P φ σ w RA (arun P (Instr.sureAddr x) σ) (Instr.sureAddr x') := by
  cases hx <;> first | exact sim_none | skip
  case ptr h o h1 h2 => exact sim_pure (A := RA) hr ⟨h, o, h1, h2, rfl, rfl⟩
theorem sim_loadAt (hr : RH P φ σ w) (t : TypeId) {x x' : Value} (hx : RV φ σ.n x x') : Sim P φ σ w RVR (arun P (Instr.loadAt t x) σ) (Instr.loadAt t x') := by
  unfold Instr.loadAt
  exact sim_bind (sim_sure hr hx) fun φ1 σ1 w1 a b hf hr1 ha => sim_loadVar hr1 t ha
theorem sim_storeAt (hr : RH P φ σ w) (t : TypeId) {x x' v v' : Value} (hx : RV φ σ.n x x') (hv : RV φ σ.n v v') : Sim P φ σ w EqR (arun P (Instr.storeAt t x v) σ) (Instr.storeAt t x' v') := by
  unfold Instr.storeAt
  exact sim_bind (sim_sure hr hx) fun φ1 σ1 w1 a b hf hr1 ha => sim_storeVar hr1 t ha (hv.frm hf)

theorem byteOf_none {n : Nat} {a a' : Addr} (ha : RA φ n a a') (σ : St) : arun P (byteOf a) σ = none := by
  obtain ⟨h, o, _, _, rfl, _⟩ := ha
  rfl
theorem sim_fieldAt (hr : RH P φ σ w) (t : TypeId) (k : Nat) {x x' : Value} (hx : RV φ σ.n x x') : Sim P φ σ w RVR (arun P (Instr.fieldAt t x k) σ) (Instr.fieldAt t x' k) := by
  unfold Instr.fieldAt
  refine sim_bind (sim_und hr t) fun φ1 σ1 w1 d d' hf hr1 ⟨hd, hu⟩ => ?_
  subst hd
  split
  case h_2 => exact sim_stuck _ _
  split
  case h_2 => exact sim_stuck _ _
  refine sim_bind (sim_sure hr1 (hx.frm hf)) fun φ2 σ2 w2 a b hf2 hr2 ha => ?_
  refine sim_ptr ?_
  unfold fieldPlace
  refine sim_bind (sim_size hr2 _) fun φ3 σ3 w3 k k' hf3 hr3 ⟨hk, _⟩ => ?_
  subst hk
  split
  · intro r σ9 h9
    exfalso
    unfold partAt at h9
    rw [arun_bind, byteOf_none (ha.frm hf3)] at h9
    cases h9
  · exact sim_pure (A := RA) hr3 ((ha.frm hf3).add _)

theorem rv_int {n : Nat} {x x' : Value} (hx : RV φ n x x') {k : IntKind} {i : Int} (h : x = .int k i) : x' = .int k i := by
  subst h
  cases hx
  rfl
/-- An integer out of a value: the same. -/
theorem sim_asIntOf (hr : RH P φ σ w) {x x' : Value} (hx : RV φ σ.n x x') : Sim P φ σ w (fun _ _ (a b : IntKind × Int) => a = b ∧ x = .int a.1 a.2) (arun P (asIntOf x) σ) (asIntOf x') := by
  cases hx <;> first | exact sim_none | skip
  case int k i => exact sim_pure (A := fun _ _ (a b : IntKind × Int) => a = b ∧ Value.int k i = .int a.1 a.2) hr ⟨rfl, rfl⟩
theorem sim_asInt (hr : RH P φ σ w) {x x' : Value} (hx : RV φ σ.n x x') : Sim P φ σ w EqR (arun P (asInt x) σ) (asInt x') := by
  unfold asInt
  refine sim_bind (sim_asIntOf hr hx) fun φ1 σ1 w1 a b hf hr1 hab => ?_
  exact sim_pure (A := EqR) hr1 (by rw [hab.1]; rfl)
theorem sim_boundsPanic {α α' : Type} {A : PMap → Nat → α → α' → Prop} (k : IntKind) (x y : Int) (c : BoundsCode) (s : Sem α') : Sim P φ σ w A (arun P (boundsPanic k x y c : Sem α) σ) s := by
  intro r σ1 h
  exfalso
  unfold boundsPanic at h
  dsimp only at h
  split at h
  · cases h
  · cases h

/-! ### parts of aggregates -/
theorem rvl_extract {n : Nat} {a a' : Array Value} (h : RVl φ n a.toList a'.toList) (i j : Nat) : RVl φ n (a.extract i j).toList (a'.extract i j).toList := by
  rw [Array.toList_extract, Array.toList_extract, List.extract_eq_take_drop, List.extract_eq_take_drop]
  exact (h.drop i).take (j - i)
theorem sim_part (hr : RH P φ σ w) (t : TypeId) {cs cs' : Array Value} (hc : RVl φ σ.n cs.toList cs'.toList) (off : Nat) : Sim P φ σ w RVR (arun P (part t cs off) σ) (part t cs' off) := by
  unfold part
  refine sim_bind (quiet_sim (quiet_isAgg t) hr) fun φ1 σ1 w1 b b' hf hr1 hb => ?_
  obtain rfl : b = b' := hb
  cases b with
  | true =>
    refine sim_bind (sim_size hr1 t) fun φ2 σ2 w2 k k' hf2 hr2 ⟨hk, _⟩ => ?_
    subst hk
    exact sim_pure (A := RVR) hr2 (.agg (rvl_extract ((hc.frm hf).frm hf2) _ _))
  | false =>
    cases hv : cs[off]? with
    | none => exact sim_stuck _ _
    | some v =>
      obtain ⟨v', h1, h2⟩ := (hc.frm hf).get off (v := v) (by simpa using hv)
      have h1' : cs'[off]? = some v' := by simpa using h1
      simp only [h1']
      exact sim_pure (A := RVR) hr1 h2
theorem sim_field (hr : RH P φ σ w) (t : TypeId) (k : Nat) {x x' : Value} (hx : RV φ σ.n x x') : Sim P φ σ w RVR (arun P (Instr.field t x k) σ) (Instr.field t x' k) := by
  unfold Instr.field
  refine sim_bind (sim_und hr t) fun φ1 σ1 w1 d d' hf hr1 ⟨hd, hu⟩ => ?_
  subst hd
  split
  case h_2 => exact sim_stuck _ _
  split
  case h_2 => exact sim_stuck _ _
  have hx1 := hx.frm hf
  cases hx1 <;> first | exact sim_none | skip
  case agg ha => exact sim_part hr1 _ ha _
theorem sim_extract (hr : RH P φ σ w) (k : Nat) {x x' : Value} (hx : RV φ σ.n x x') : Sim P φ σ w RVR (arun P (Instr.extract x k) σ) (Instr.extract x' k) := by
  cases hx <;> first | exact sim_none | skip
  case tuple a a' ha =>
    unfold Instr.extract
    dsimp only
    cases hv : a[k]? with
    | none => exact sim_stuck _ _
    | some v =>
      obtain ⟨v', h1, h2⟩ := ha.get k (v := v) (by simpa using hv)
      have h1' : a'[k]? = some v' := by simpa using h1
      simp only [h1']
      exact sim_pure (A := RVR) hr h2

/-! ### indices -/
theorem sim_index (hr : RH P φ σ w) (t : TypeId) {x x' i i' : Value} (hx : RV φ σ.n x x') (hi : RV φ σ.n i i') : Sim P φ σ w RVR (arun P (Instr.index t x i) σ) (Instr.index t x' i') := by
  unfold Instr.index
  refine sim_bind (sim_asIntOf hr hi) fun φ1 σ1 w1 a b hf hr1 hab => ?_
  obtain ⟨rfl, -⟩ := hab
  obtain ⟨k, j⟩ := a
  refine sim_bind (sim_und hr1 t) fun φ2 σ2 w2 d d' hf2 hr2 ⟨hd, hu⟩ => ?_
  subst hd
  have hx2 := (hx.frm hf).frm hf2
  cases d <;> first | exact sim_none | skip
  case array elem len =>
    cases hx2 <;> first | exact sim_none | skip
    case agg ha =>
      dsimp only
      split
      · refine sim_bind (sim_size hr2 elem) fun φ3 σ3 w3 s s' hf3 hr3 ⟨hs, _⟩ => ?_
        subst hs
        exact sim_part hr3 _ (ha.frm hf3) _
      · exact sim_boundsPanic _ _ _ _ _
  case string =>
    cases hx2 <;> first | exact sim_none | skip
    case string s =>
      dsimp only
      split
      · exact sim_pure (A := RVR) hr2 (.int _ _)
      · exact sim_boundsPanic _ _ _ _ _

theorem sim_indexAt (hr : RH P φ σ w) (t : TypeId) {x x' i i' : Value} (hx : RV φ σ.n x x') (hi : RV φ σ.n i i') : Sim P φ σ w RVR (arun P (Instr.indexAt t x i) σ) (Instr.indexAt t x' i') := by
  unfold Instr.indexAt
  refine sim_bind (sim_asIntOf hr hi) fun φ1 σ1 w1 a b hf hr1 hab => ?_
  obtain ⟨rfl, -⟩ := hab
  obtain ⟨k, j⟩ := a
  dsimp only
  refine sim_bind (sim_und hr1 t) fun φ2 σ2 w2 d d' hf2 hr2 ⟨hd, hu⟩ => ?_
  subst hd
  have hx2 := (hx.frm hf).frm hf2
  have tail : ∀ φ3 σ3 w3, RH P φ3 σ3 w3 → ∀ (a a' : Addr) (len : Nat) (elem : TypeId), (0 < len → RA φ3 σ3.n a a') →
      Sim P φ3 σ3 w3 RVR (arun P (do
        let tiny := len ≤ 1 && (match ← underlying t with | .array .. => true | _ => false)
        if 0 ≤ j ∧ j < len then pure (.pointer (some (a.add (j.toNat * (← sizeOf elem)))))
        else if tiny then unsupported (.noEntry "op/indexAddr.an index out of range at an array of length 0 or 1 (ledger 616)")
        else boundsPanic k j len .index) σ3) (do
        let tiny := len ≤ 1 && (match ← underlying t with | .array .. => true | _ => false)
        if 0 ≤ j ∧ j < len then pure (.pointer (some (a'.add (j.toNat * (← sizeOf elem)))))
        else if tiny then unsupported (.noEntry "op/indexAddr.an index out of range at an array of length 0 or 1 (ledger 616)")
        else boundsPanic k j len .index) := by
    intro φ3 σ3 w3 hr3 a a' len elem ha
    refine sim_bind (sim_und hr3 t) fun φ4 σ4 w4 d4 d4' hf4 hr4 ⟨hd4, _⟩ => ?_
    subst hd4
    dsimp only
    by_cases hj : 0 ≤ j ∧ j < len
    · rw [if_pos hj, if_pos hj]
      refine sim_bind (sim_size hr4 elem) fun φ5 σ5 w5 s s' hf5 hr5 ⟨hs, _⟩ => ?_
      subst hs
      exact sim_pure (A := RVR) hr5 (((ha (by omega)).frm hf4).frm hf5 |>.add _).rv
    · rw [if_neg hj, if_neg hj]
      (repeat' split) <;> first | exact sim_unsup _ _ | exact sim_boundsPanic _ _ _ _ _
  cases d <;> first | exact sim_none | skip
  case array len elem _ =>
    dsimp only
    refine sim_bind (sim_sure hr2 hx2) fun φ3 σ3 w3 a a' hf3 hr3 ha => ?_
    simp only [pure_bind]
    exact tail _ _ _ hr3 a a' len elem fun _ => ha
  case slice elem _ =>
    cases hx2 <;> first | exact sim_none | skip
    case nilSlice =>
      simp only [pure_bind]
      refine sim_bind (sim_und hr2 t) fun φ4 σ4 w4 d4 d4' hf4 hr4 ⟨hd4, _⟩ => ?_
      exact sim_boundsPanic _ _ _ _ _
    case slice h o o' l c c' g1 g2 g3 g4 g5 g6 =>
      simp only [pure_bind]
      exact tail _ _ _ hr2 _ _ l elem fun hl => ⟨h, o, g1, g2, rfl, by rw [g3 (by omega)]⟩

/-! ### interface values, functions, maps -/
theorem sim_makeInterface (hr : RH P φ σ w) (t : TypeId) {x x' : Value} (hx : RV φ σ.n x x') : Sim P φ σ w RVR (arun P (Instr.makeInterface t x) σ) (Instr.makeInterface t x') := by
  unfold Instr.makeInterface
  refine sim_bind (sim_und hr t) fun φ1 σ1 w1 d d' hf hr1 ⟨hd, hu⟩ => ?_
  subst hd
  split
  · exact sim_stuck _ _
  · exact sim_pure (A := RVR) hr1 (.iface t (hx.frm hf))
theorem sim_makeFunc (hr : RH P φ σ w) (f : Fn) {a a' c c' : Array Value} (ha : RVl φ σ.n a.toList a'.toList) (hc : RVl φ σ.n c.toList c'.toList) :
    Sim P φ σ w RVR (arun P (Instr.makeFunc f a c) σ) (Instr.makeFunc f a' c') := sim_pure (A := RVR) hr (.func f ha hc)
theorem sim_makeMap (hr : RH P φ σ w) (t : TypeId) : Sim P φ σ w RVR (arun P (Instr.makeMap t none) σ) (Instr.makeMap t none) := by
  unfold Instr.makeMap
  dsimp only
  refine sim_bind (sim_newObj hr (o := .map #[] 0) (o' := .map #[] 0) ⟨rfl, REs.nil_⟩) fun φ1 σ1 w1 h r hf hr1 ⟨h1, h2⟩ => ?_
  exact sim_pure (A := RVR) hr1 (.map h r h1 h2)

theorem sim_assert (hr : RH P φ σ w) (xt : TypeId) {t : TypeId} (hz : zchk P t = true) (ok : Bool) {x x' : Value} (hx : RV φ σ.n x x') : Sim P φ σ w RVR (arun P (Instr.typeAssert x xt t ok) σ) (Instr.typeAssert x' xt t ok) := by
  have fails : ∀ φ3 σ3 w3, RH P φ3 σ3 w3 → ∀ (i c : Option TypeId) (m : String), Sim P φ3 σ3 w3 RVR
      (arun P (do if ok then pure (.tuple #[← zeroValue t, .bool false]) else runtimePanic (.typeAssertion i c t m) : Sem Value) σ3)
      (do if ok then pure (.tuple #[← zeroValue t, .bool false]) else runtimePanic (.typeAssertion i c t m)) := by
    intro φ3 σ3 w3 hr3 i c m
    cases ok with
    | true =>
      refine sim_bind (sim_zero hr3 hz) fun φ4 σ4 w4 z z' hf4 hr4 ⟨e, hc⟩ => ?_
      subst e
      exact sim_pure (A := RVR) hr4 (.tuple (.cons (rv_clean hc _ _) (.cons (.bool false) .nil)))
    | false =>
      intro r σ9 h9
      exfalso
      simp only [Bool.false_eq_true, if_false, runtimePanic, arun_bind, goPanic] at h9
      simp only [program, arun, Option.bind_some] at h9
      cases he : arun P (elemOf P.rt.typeAssertionError) σ3 with
      | none => simp [he] at h9
      | some y =>
        simp only [he, Option.bind_some] at h9
        rw [Option.bind_eq_some_iff] at h9
        obtain ⟨_, _, h10⟩ := h9
        cases h10
  have holds : ∀ φ3 σ3 w3, RH P φ3 σ3 w3 → ∀ v v', RV φ3 σ3.n v v' → Sim P φ3 σ3 w3 RVR (arun P (pure (if ok then Value.tuple #[v, .bool true] else v)) σ3) (pure (if ok then Value.tuple #[v', .bool true] else v')) := by
    intro φ3 σ3 w3 hr3 v v' hv
    cases ok with
    | true => exact sim_pure (A := RVR) hr3 (.tuple (.cons hv (.cons (.bool true) .nil)))
    | false => exact sim_pure (A := RVR) hr3 hv
  unfold Instr.typeAssert
  dsimp only
  refine sim_bind (sim_und hr t) fun φ1 σ1 w1 d d' hf hr1 ⟨hd, hu⟩ => ?_
  subst hd
  have hx1 := hx.frm hf
  cases hx1
  case nilIface => cases d <;> exact fails _ _ _ hr1 _ _ _
  case iface u v v' hv =>
    cases d
    case interface want =>
      refine sim_bind (sim_info hr1 u) fun φ2 σ2 w2 i i' hf2 hr2 ⟨hi, _⟩ => ?_
      subst hi
      split
      · exact holds _ _ _ hr2 _ _ ((RV.iface u hv).frm hf2)
      · exact fails _ _ _ hr2 _ _ _
    all_goals
      (try dsimp only)
      split
      · exact holds _ _ _ hr1 _ _ hv
      · exact fails _ _ _ hr1 _ _ _
  all_goals (cases d <;> exact sim_none)
end
end Go.AM
namespace Go.AM
open Go

section
variable {P : Program} {φ : PMap} {σ : St} {w : World}

theorem quiet_askRoom (n : Nat) : Quiet (askRoom n) := by unfold askRoom; split <;> trivial

theorem sim_makeSlice (hr : RH P φ σ w) {t : TypeId} (hz : ∀ e, P.underlying t = some (.slice e) → zchk P e = true) {l l' c c' : Value} (hl : RV φ σ.n l l') (hc : RV φ σ.n c c') :
    Sim P φ σ w RVR (arun P (Instr.makeSlice t l c) σ) (Instr.makeSlice t l' c') := by
  unfold Instr.makeSlice
  refine sim_bind (sim_und hr t) fun φ1 σ1 w1 d d' hf hr1 ⟨hd, hu⟩ => ?_
  subst hd
  split
  case h_2 => exact sim_stuck _ _
  rename_i e _
  have hze := hz e hu
  refine sim_bind (sim_asInt hr1 (hl.frm hf)) fun φ2 σ2 w2 n n' hf2 hr2 hn => ?_
  obtain rfl : n = n' := hn
  refine sim_bind (sim_asInt hr2 ((hc.frm hf).frm hf2)) fun φ3 σ3 w3 m m' hf3 hr3 hm => ?_
  obtain rfl : m = m' := hm
  refine sim_bind (sim_info hr3 e) fun φ4 σ4 w4 i i' hf4 hr4 ⟨hi, _⟩ => ?_
  subst hi
  dsimp only
  have tail : Sim P φ4 σ4 w4 RVR (arun P (do
        askRoom ((IntKind.i64.wrap m).toNat * i.bytes)
        let n' := (IntKind.i64.wrap m).toNat * (← sizeOf e)
        let zero ← if n' = 0 then pure #[] else do pure (← zeroValue e).cells
        let a ← newRow e ((Array.range n').map (zero[· % zero.size]!))
        pure (.slice (some a) (IntKind.i64.wrap n).toNat (IntKind.i64.wrap m).toNat)) σ4) (do
        askRoom ((IntKind.i64.wrap m).toNat * i.bytes)
        let n' := (IntKind.i64.wrap m).toNat * (← sizeOf e)
        let zero ← if n' = 0 then pure #[] else do pure (← zeroValue e).cells
        let a ← newRow e ((Array.range n').map (zero[· % zero.size]!))
        pure (.slice (some a) (IntKind.i64.wrap n).toNat (IntKind.i64.wrap m).toNat)) ∨ ¬ (IntKind.i64.wrap n).toNat ≤ (IntKind.i64.wrap m).toNat := by
    by_cases hle : (IntKind.i64.wrap n).toNat ≤ (IntKind.i64.wrap m).toNat
    case neg => exact .inr hle
    refine .inl ?_
    refine sim_bind (quiet_sim (quiet_askRoom _) hr4) fun φ5 σ5 w5 _ _ hf5 hr5 _ => ?_
    refine sim_bind (sim_size hr5 e) fun φ6 σ6 w6 s s' hf6 hr6 ⟨hs, _⟩ => ?_
    subst hs
    have key : ∀ (z : Array Value), z.toList.all cleanLeaf = true → ∀ φ7 σ7 w7, RH P φ7 σ7 w7 →
        Sim P φ7 σ7 w7 RVR (arun P (do
          let a ← newRow e ((Array.range ((IntKind.i64.wrap m).toNat * s)).map (z[· % z.size]!))
          pure (.slice (some a) (IntKind.i64.wrap n).toNat (IntKind.i64.wrap m).toNat)) σ7) (do
          let a ← newRow e ((Array.range ((IntKind.i64.wrap m).toNat * s)).map (z[· % z.size]!))
          pure (.slice (some a) (IntKind.i64.wrap n).toNat (IntKind.i64.wrap m).toNat)) := by
      intro z hz2 φ7 σ7 w7 hr7
      refine sim_bind (sim_newRow hr7 e (rvl_range hz2 _)) fun φ8 σ8 w8 a b hf8 hr8 hab => ?_
      obtain ⟨h, o, g1, g2, rfl, rfl⟩ := hab
      exact sim_pure (A := RVR) hr8 (.slice h o _ _ _ _ g1 g2 (fun _ => rfl) hle (Nat.le_refl _) (.inl rfl))
    dsimp only
    by_cases h0 : (IntKind.i64.wrap m).toNat * s = 0
    · simp only [if_pos h0, pure_bind]
      exact key #[] rfl _ _ _ hr6
    · simp only [if_neg h0, pure_bind]
      refine sim_bind (sim_zero hr6 hze) fun φ7 σ7 w7 z z' hf7 hr7 ⟨hzz, hcl⟩ => ?_
      subst hzz
      exact key z.cells (clean_leafs hcl) _ _ _ hr7
  by_cases hbad : ((decide (IntKind.i64.wrap m < 0) || decide (↑i.bytes * IntKind.i64.wrap m > 2 ^ 48)) || decide (IntKind.i64.wrap n < 0) || decide (IntKind.i64.wrap n > IntKind.i64.wrap m)) = true
  · simp only [if_pos hbad]
    intro r σ9 h9
    exfalso
    revert h9
    (repeat' split) <;> (intro h9; cases h9)
  · simp only [if_neg hbad]
    refine tail.resolve_right fun hle => ?_
    simp only [Bool.or_eq_true, decide_eq_true_eq] at hbad
    omega

/-! ### slices of strings, arrays, slices -/
theorem sim_bound (hr : RH P φ σ w) {x x' : Value} (hx : RV φ σ.n x x') {y y' : Nat} (hy : y ≤ y') (c : BoundsCode) :
    Sim P φ σ w (fun _ _ a b => a = b ∧ a ≤ y) (arun P (Instr.sliceBound x y c) σ) (Instr.sliceBound x' y' c) := by
  unfold Instr.sliceBound
  refine sim_bind (sim_asIntOf hr hx) fun φ1 σ1 w1 a b hf hr1 hab => ?_
  obtain ⟨rfl, -⟩ := hab
  obtain ⟨k, i⟩ := a
  dsimp only
  by_cases hi : 0 ≤ i ∧ i ≤ y
  · rw [if_pos hi, if_pos ⟨hi.1, by omega⟩]
    exact sim_pure (A := fun _ _ (a b : Nat) => a = b ∧ a ≤ y) hr1 ⟨rfl, by omega⟩
  · rw [if_neg hi]
    exact sim_boundsPanic _ _ _ _ _
/-- No third index. -/
theorem sim_bounds (hr : RH P φ σ w) (isS : Bool) {len cap cap' : Nat} (hlc : len ≤ cap) (hcap : cap ≤ cap') {lo lo' hi hi' : Option Value} (hlo : (lo = none ∧ lo' = none) ∨ ∃ x x', lo = some x ∧ lo' = some x' ∧ RV φ σ.n x x')
    (hhi : (hi = none ∧ hi' = none) ∨ ∃ x x', hi = some x ∧ hi' = some x' ∧ RV φ σ.n x x') :
    Sim P φ σ w (fun _ _ a b => a.1 = b.1 ∧ a.2.1 = b.2.1 ∧ a.2.2 = cap ∧ b.2.2 = cap' ∧ a.1 ≤ a.2.1 ∧ a.2.1 ≤ cap) (arun P (Instr.sliceBounds isS len cap lo hi none) σ) (Instr.sliceBounds isS len cap' lo' hi' none) := by
  unfold Instr.sliceBounds
  dsimp only
  simp only [pure_bind]
  have tail : ∀ φ1 σ1 w1, Frm φ σ w φ1 σ1 w1 → RH P φ1 σ1 w1 → ∀ h, h ≤ cap →
      Sim P φ1 σ1 w1 (fun _ _ (a b : Nat × Nat × Nat) => a.1 = b.1 ∧ a.2.1 = b.2.1 ∧ a.2.2 = cap ∧ b.2.2 = cap' ∧ a.1 ≤ a.2.1 ∧ a.2.1 ≤ cap)
        (arun P (do
          let l ← match lo with
            | some v => Instr.sliceBound v h .sliceB
            | none => pure 0
          pure (l, h, cap)) σ1) (do
          let l ← match lo' with
            | some v => Instr.sliceBound v h .sliceB
            | none => pure 0
          pure (l, h, cap')) := by
    intro φ1 σ1 w1 hf hr1 h hh
    rcases hlo with ⟨rfl, rfl⟩ | ⟨x, x', rfl, rfl, hx⟩
    · exact sim_pure (A := fun _ _ (a b : Nat × Nat × Nat) => a.1 = b.1 ∧ a.2.1 = b.2.1 ∧ a.2.2 = cap ∧ b.2.2 = cap' ∧ a.1 ≤ a.2.1 ∧ a.2.1 ≤ cap) hr1 ⟨rfl, rfl, rfl, rfl, Nat.zero_le _, hh⟩
    · refine sim_bind (sim_bound hr1 (hx.frm hf) (Nat.le_refl h) _) fun φ2 σ2 w2 l l' hf2 hr2 ⟨hl, hl2⟩ => ?_
      subst hl
      exact sim_pure (A := fun _ _ (a b : Nat × Nat × Nat) => a.1 = b.1 ∧ a.2.1 = b.2.1 ∧ a.2.2 = cap ∧ b.2.2 = cap' ∧ a.1 ≤ a.2.1 ∧ a.2.1 ≤ cap) hr2 ⟨rfl, rfl, rfl, rfl, hl2, hh⟩
  rcases hhi with ⟨rfl, rfl⟩ | ⟨x, x', rfl, rfl, hx⟩
  · simp only
    exact tail _ _ _ (Frm.refl _ _ _) hr len hlc
  · dsimp only
    refine sim_bind (sim_bound hr hx hcap _) fun φ2 σ2 w2 h h' hf2 hr2 ⟨hl, hl2⟩ => ?_
    subst hl
    exact tail _ _ _ hf2 hr2 h hl2

/-- May this slice be cut: the elements are the handle's own. -/
def sliceOk (P : Program) (σ : St) (t : TypeId) : Value → Bool
  | .slice (some a) _ _ => match σ.get a.block, P.underlying t with
    | some (.cells _ e _), some (.slice e') => e == e'
    | _, _ => false
  | _ => true

def ROpt (φ : PMap) (n : Nat) (x x' : Option Value) : Prop := (x = none ∧ x' = none) ∨ ∃ y y', x = some y ∧ x' = some y' ∧ RV φ n y y'

theorem ROpt.frm {φ1 : PMap} {σ1 : St} {w1 : World} (hf : Frm φ σ w φ1 σ1 w1) {y y' : Option Value} (h : ROpt φ σ.n y y') : ROpt φ1 σ1.n y y' := by
  rcases h with h | ⟨a, b, h1, h2, h3⟩
  · exact .inl h
  · exact .inr ⟨a, b, h1, h2, h3.frm hf⟩

theorem sim_sliceAt (hr : RH P φ σ w) (t : TypeId) {x x' : Value} (hx : RV φ σ.n x x') (hok : sliceOk P σ t x = true) {lo lo' hi hi' : Option Value} (hlo : ROpt φ σ.n lo lo') (hhi : ROpt φ σ.n hi hi') :
    Sim P φ σ w RVR (arun P (Instr.sliceAt t x lo hi none) σ) (Instr.sliceAt t x' lo' hi' none) := by
  unfold Instr.sliceAt
  refine und_step fun d hu => ?_
  cases d
  case array n elem =>
    dsimp only
    refine sim_bind (sim_sure hr hx) fun φ2 σ2 w2 a a' hf2 hr2 ha => ?_
    refine sim_bind (sim_bounds hr2 false (Nat.le_refl n) (Nat.le_refl n) (hlo.frm hf2) (hhi.frm hf2)) fun φ3 σ3 w3 b b' hf3 hr3 hb => ?_
    obtain ⟨l, h, m⟩ := b
    obtain ⟨l', h', m'⟩ := b'
    obtain ⟨e1, e2, e3, e4, e5, e6⟩ := hb
    dsimp only at e1 e2 e3 e4 e5 e6
    subst e1 e2 e3 e4
    dsimp only
    refine size_step fun s hs => ?_
    obtain ⟨g, o, g1, g2, rfl, rfl⟩ := ha.frm hf3
    by_cases hml : m' = l
    · simp only [if_pos hml]
      exact sim_pure (A := RVR) hr3 (.slice g o _ _ _ _ g1 g2 (fun _ => rfl) (by omega) (Nat.le_refl _) (.inl rfl))
    · simp only [if_neg hml, addr_add]
      exact sim_pure (A := RVR) hr3 (.slice g _ _ _ _ _ g1 g2 (fun _ => by omega) (by omega) (Nat.le_refl _) (.inl rfl))
  all_goals
    dsimp only
    unfold Instr.slice
    refine und_step fun d2 hu2 => ?_
    rw [hu] at hu2
    injection hu2 with hu2
    subst hu2
  case string =>
    cases hx <;> first | exact sim_none | skip
    case string s =>
      dsimp only
      refine sim_bind (sim_bounds hr false (Nat.le_refl s.size) (Nat.le_refl s.size) hlo hhi) fun φ3 σ3 w3 b b' hf3 hr3 hb => ?_
      obtain ⟨l, h, m⟩ := b
      obtain ⟨l', h', m'⟩ := b'
      obtain ⟨e1, e2, e3, e4, e5, e6⟩ := hb
      dsimp only at e1 e2 e3 e4
      subst e1 e2
      exact sim_pure (A := RVR) hr3 (.string _)
  case pointer arr =>
    cases hx <;> first | exact sim_none | skip
    case ptr g o g1 g2 =>
      simp only [asAddr, pure_bind]
      refine und_step fun d2 hu2 => ?_
      cases d2 <;> first | exact sim_none | skip
      case array n elem =>
        dsimp only
        refine sim_bind (sim_bounds hr false (Nat.le_refl n) (Nat.le_refl n) hlo hhi) fun φ3 σ3 w3 b b' hf3 hr3 hb => ?_
        obtain ⟨l, h, m⟩ := b
        obtain ⟨l', h', m'⟩ := b'
        obtain ⟨e1, e2, e3, e4, e5, e6⟩ := hb
        dsimp only at e1 e2 e3 e4 e5 e6
        subst e1 e2 e3 e4
        dsimp only
        refine size_step fun s hs => ?_
        obtain ⟨e7, e8, e9⟩ := hf3.ext g g1
        have g2' : (φ3.at_ g).spot = none := by rw [e7]; exact g2
        have g1' : g < σ3.n := Nat.lt_of_lt_of_le g1 hf3.n_le
        rw [← e7]
        by_cases hml : m' = l
        · simp only [if_pos hml]
          exact sim_pure (A := RVR) hr3 (.slice g o _ _ _ _ g1' g2' (fun _ => rfl) (by omega) (Nat.le_refl _) (.inl rfl))
        · simp only [if_neg hml, addr_add]
          exact sim_pure (A := RVR) hr3 (.slice g _ _ _ _ _ g1' g2' (fun _ => by omega) (by omega) (Nat.le_refl _) (.inl rfl))
  case slice elem =>
    cases hx <;> first | exact sim_none | skip
    case nilSlice =>
      dsimp only
      refine sim_bind (sim_bounds hr true (Nat.le_refl 0) (Nat.le_refl 0) hlo hhi) fun φ3 σ3 w3 b b' hf3 hr3 hb => ?_
      obtain ⟨l, h, m⟩ := b
      obtain ⟨l', h', m'⟩ := b'
      obtain ⟨e1, e2, e3, e4, e5, e6⟩ := hb
      dsimp only at e1 e2 e3 e4 e5 e6
      subst e1 e2 e3 e4
      obtain rfl : h = 0 := by omega
      obtain rfl : l = 0 := by omega
      dsimp only
      refine size_step fun s hs => ?_
      exact sim_pure (A := RVR) hr3 (by split <;> exact .nilSlice)
    case slice g o o' l0 c0 c0' g1 g2 g3 g4 g5 g6 =>
      have hobj : ∃ cs wr, σ.get g = some (.cells cs elem wr) := by
        simp only [sliceOk, hu] at hok
        cases hg : σ.get g with
        | none => simp [hg] at hok
        | some ob =>
          cases ob <;> simp [hg] at hok
          subst hok
          exact ⟨_, _, rfl⟩
      obtain ⟨cs, wr, hg⟩ := hobj
      obtain ⟨_, _, _, _, _, _, hsz, _⟩ := hr.objs g _ hg
      dsimp only
      refine sim_bind (sim_bounds hr true g4 g5 hlo hhi) fun φ3 σ3 w3 b b' hf3 hr3 hb => ?_
      obtain ⟨l, h, m⟩ := b
      obtain ⟨l', h', m'⟩ := b'
      obtain ⟨e1, e2, e3, e4, e5, e6⟩ := hb
      dsimp only at e1 e2 e3 e4 e5 e6
      subst e1 e2 e3 e4
      dsimp only
      refine size_step fun s hs => ?_
      have hs' := hsz s hs
      obtain ⟨e7, e8, e9⟩ := hf3.ext g g1
      have g2' : (φ3.at_ g).spot = none := by rw [e7]; exact g2
      have g1' : g < σ3.n := Nat.lt_of_lt_of_le g1 hf3.n_le
      rw [← e7]
      refine sim_pure (A := RVR) hr3 ?_
      have hs' : φ.sz g = s := hsz s hs
      have hroom : m' - l = m - l ∨ (o' + l * s) + (m' - l) * φ3.sz g ≤ (φ3.at_ g).off + φ3.room g := by
        rcases g6 with h6 | h6
        · exact .inl (by omega)
        · right
          rw [e7, e8, e9, hs']
          rw [hs'] at h6
          have hmul : l * s + (m' - l) * s = m' * s := by rw [← Nat.add_mul]; congr 1; omega
          omega
      by_cases hml : m = l
      · rw [if_pos hml]
        by_cases hml' : m' = l
        · rw [if_pos hml']
          exact .slice g o o' _ _ _ g1' g2' (fun h0 => by omega) (by omega) (by omega) (.inl (by omega))
        · rw [if_neg hml', Option.map_some, addr_add]
          exact .slice g o _ _ _ _ g1' g2' (fun h0 => by omega) (by omega) (by omega) (hroom.imp (fun h => by omega) id)
      · rw [if_neg hml, if_neg (by omega), Option.map_some, Option.map_some, addr_add, addr_add]
        exact .slice g _ _ _ _ _ g1' g2' (fun h0 => by rw [e7, g3 (by omega), Nat.add_assoc]) (by omega) (by omega) (hroom.imp (fun h => by omega) id)
  all_goals (cases hx <;> exact sim_none)
end
end Go.AM

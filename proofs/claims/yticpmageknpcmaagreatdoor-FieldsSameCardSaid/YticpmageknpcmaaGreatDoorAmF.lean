/- A part of the proof that FieldsSame, called with any two lists of tags (the laid tables as the text lays them), returns true and leaves its arguments as they were. Here: equations without a count, and ranges over maps. -/
import Derived.Test.YticpmageknpcmaaGreatDoorAmE
import Derived.Below
import Derived.Maps.RangeRun
set_option linter.unusedVariables false
set_option linter.unusedSimpArgs false
namespace Go.AM
open Go

/-! The lowered machine without a count: limits. -/
section lim
open Classical in
noncomputable def lim {β : Type} (g : Nat → Option β) : Option β := if h : ∃ n r, g n = some r then g (Classical.choose h) else none
def MonoN {β : Type} (g : Nat → Option β) : Prop := ∀ n m r, n ≤ m → g n = some r → g m = some r
theorem lim_iff {β : Type} {g : Nat → Option β} (hg : MonoN g) (r : β) : lim g = some r ↔ ∃ n, g n = some r := by
  unfold lim
  constructor
  · intro h
    split at h
    · exact ⟨_, h⟩
    · cases h
  · rintro ⟨n, hn⟩
    have hx : ∃ n r, g n = some r := ⟨n, r, hn⟩
    rw [dif_pos hx]
    obtain ⟨s, hs⟩ := Classical.choose_spec hx
    have h1 := hg _ (max n (Classical.choose hx)) s (Nat.le_max_right _ _) hs
    have h2 := hg _ (max n (Classical.choose hx)) r (Nat.le_max_left _ _) hn
    rw [h1] at h2
    rw [hs, h2]
end lim

theorem opt_ext {β : Type} {a b : Option β} (h : ∀ r, a = some r ↔ b = some r) : a = b := by
  cases a with
  | none => cases b with
    | none => rfl
    | some y => exact ((h y).2 rfl)
  | some x => exact ((h x).1 rfl).symm

def Below (c1 c2 : ACall) : Prop := ∀ f a σ r, c1 f a σ = some r → c2 f a σ = some r

section
variable {P : Program} {gl : Nat → Option Nat} {c1 c2 : ACall}
theorem fop_mono (h : Below c1 c2) {ρ : List Value} {σ : St} {o : FOp} {r : AEnd × St} (hr : fop P gl c1 ρ σ o = some r) : fop P gl c2 ρ σ o = some r := by
  cases o <;> first | exact hr | skip
  case call f xs => exact h _ _ _ _ hr
  case raw u op ty m =>
    cases u with
    | true => exact hr
    | false =>
      simp only [fop] at hr ⊢
      exact fraw_mono h hr
theorem fchk_mono (h : Below c1 c2) {g : Option (Src × Bool)} {o : FOp} {s : Src} {ρ : List Value} {σ : St} (hr : fchk P gl c1 g o s ρ σ = true) : fchk P gl c2 g o s ρ σ = true := by
  unfold fchk at hr ⊢
  split
  · rename_i hg
    rw [if_pos hg] at hr
    cases hx : fop P gl c1 ρ σ o with
    | none => rw [hx] at hr; cases hr
    | some y =>
      rw [hx] at hr
      rw [fop_mono h hx]
      exact hr
  · rename_i hg
    rw [if_neg hg] at hr
    exact hr
theorem fops_mono (h : Below c1 c2) : ∀ (l : List FI) {ρ : List Value} {σ : St} {r : FO × St}, fops P gl c1 l ρ σ = some r → fops P gl c2 l ρ σ = some r := by
  intro l
  induction l with
  | nil => intro ρ σ r hr; exact hr
  | cons i l ih =>
    intro ρ σ r hr
    cases i with
    | op p g o =>
      simp only [fops] at hr ⊢
      split
      · rename_i hg
        rw [if_pos hg] at hr
        cases hx : fop P gl c1 ρ σ o with
        | none => rw [hx] at hr; cases hr
        | some y =>
          obtain ⟨e, s⟩ := y
          rw [hx] at hr
          rw [fop_mono h hx]
          cases e with
          | ret v => exact ih hr
          | panic v => exact hr
      · rename_i hg
        rw [if_neg hg] at hr
        exact ih hr
    | chk g o s =>
      simp only [fops] at hr ⊢
      split at hr
      · rename_i hc
        rw [if_pos (fchk_mono h hc)]
        exact ih hr
      · cases hr
    | shuf l => simp only [fops] at hr ⊢; exact ih hr
theorem floop_mono {b1 b2 : List Value → St → Option (FO × St)} (h : ∀ ρ σ r, b1 ρ σ = some r → b2 ρ σ = some r) : ∀ (n m : Nat) {ρ : List Value} {σ : St} {r : FO × St}, n ≤ m → floop b1 n ρ σ = some r → floop b2 m ρ σ = some r := by
  intro n
  induction n with
  | zero => intro m ρ σ r _ hr; cases hr
  | succ n ih =>
    intro m ρ σ r hm hr
    cases m with
    | zero => omega
    | succ m =>
      simp only [floop] at hr ⊢
      cases hx : b1 ρ σ with
      | none => rw [hx] at hr; cases hr
      | some y =>
        obtain ⟨o, s⟩ := y
        rw [hx] at hr
        rw [h _ _ _ hx]
        cases o with
        | nx ρ1 => exact ih m (by omega) hr
        | _ => exact hr
theorem fexec_mono (h : Below c1 c2) {n m : Nat} (hm : n ≤ m) : ∀ (c : FC) {ρ : List Value} {σ : St} {r : FO × St}, fexec P gl n c1 c ρ σ = some r → fexec P gl m c2 c ρ σ = some r := by
  intro c
  induction c with
  | ops l => intro ρ σ r hr; exact fops_mono h l hr
  | seq a b iha ihb =>
    intro ρ σ r hr
    simp only [fexec] at hr ⊢
    cases hx : fexec P gl n c1 a ρ σ with
    | none => rw [hx] at hr; cases hr
    | some y =>
      obtain ⟨o, s⟩ := y
      rw [hx] at hr
      rw [iha hx]
      cases o with
      | nx ρ1 => exact ihb hr
      | _ => exact hr
  | cond s a b iha ihb =>
    intro ρ σ r hr
    simp only [fexec] at hr ⊢
    split at hr
    · rename_i t ht
      cases t
      · exact ihb hr
      · exact iha hr
    · cases hr
  | block id c ih =>
    intro ρ σ r hr
    simp only [fexec] at hr ⊢
    cases hx : fexec P gl n c1 c ρ σ with
    | none => rw [hx] at hr; cases hr
    | some y =>
      rw [hx] at hr
      rw [ih hx]
      exact hr
  | loop c ih => intro ρ σ r hr; exact floop_mono (fun ρ σ r => ih) n m hm hr
  | exit id l => intro ρ σ r hr; exact hr
  | ret l => intro ρ σ r hr; exact hr
  | stuck => intro ρ σ r hr; cases hr
theorem fbody_mono (h : Below c1 c2) {n m : Nat} (hm : n ≤ m) {F : FFun} {a : List Value} {σ : St} {r : AEnd × St} (hr : fbody P gl n c1 F a σ = some r) : fbody P gl m c2 F a σ = some r := by
  unfold fbody at hr ⊢
  split
  · rename_i hl
    rw [if_pos hl] at hr
    cases hx : fexec P gl n c1 F.code a σ with
    | none => rw [hx] at hr; cases hr
    | some y =>
      rw [hx] at hr
      rw [fexec_mono h hm _ hx]
      exact hr
  · rename_i hl
    rw [if_neg hl] at hr
    exact hr
end

section
variable (Q : FP)
theorem fcall_mono : ∀ (n m : Nat), n ≤ m → Below (fcall Q n) (fcall Q m) := by
  intro n
  induction n with
  | zero => intro m _ f a σ r h; cases h
  | succ n ih =>
    intro m hm f a σ r h
    cases m with
    | zero => omega
    | succ m =>
      simp only [fcall] at h ⊢
      split
      · rename_i hh; rw [if_pos hh] at h; exact h
      · rename_i hh
        rw [if_neg hh] at h
        cases ht : Q.tab f with
        | none => rw [ht] at h; cases h
        | some F =>
          rw [ht] at h
          exact fbody_mono (ih m (by omega)) hm h

noncomputable def callW : ACall := fun f a σ => lim fun n => fcall Q n f a σ
noncomputable def opW (ρ : List Value) (σ : St) (o : FOp) : AOut := fop Q.P Q.gl (callW Q) ρ σ o
noncomputable def opsW (l : List FI) (ρ : List Value) (σ : St) : Option (FO × St) := fops Q.P Q.gl (callW Q) l ρ σ
noncomputable def execW (c : FC) (ρ : List Value) (σ : St) : Option (FO × St) := lim fun n => fexec Q.P Q.gl n (fcall Q n) c ρ σ

variable {Q}
theorem call_iff {f : FuncId} {a : List Value} {σ : St} {r : AEnd × St} : callW Q f a σ = some r ↔ ∃ n, fcall Q n f a σ = some r := lim_iff (fun n m r h => fcall_mono Q n m h f a σ r) r
theorem exec_iff {c : FC} {ρ : List Value} {σ : St} {r : FO × St} : execW Q c ρ σ = some r ↔ ∃ n, fexec Q.P Q.gl n (fcall Q n) c ρ σ = some r := lim_iff (fun n m r h => fexec_mono (fcall_mono Q n m h) h c) r
theorem below_W (n : Nat) : Below (fcall Q n) (callW Q) := fun f a σ r h => call_iff.2 ⟨n, h⟩

theorem fop_cont {ρ : List Value} {σ : St} {o : FOp} {r : AEnd × St} (h : fop Q.P Q.gl (callW Q) ρ σ o = some r) : ∃ n, fop Q.P Q.gl (fcall Q n) ρ σ o = some r := by
  cases o <;> first | exact ⟨0, h⟩ | skip
  case call f xs => exact call_iff.1 h
  case raw u op ty m =>
    cases u with
    | true => exact ⟨0, h⟩
    | false =>
      simp only [fop] at h ⊢
      cases hx : aop Q.P (rawEnv Q.gl m ρ) ⟨none, op, ty, "", #[], none⟩ σ with
      | none => rw [hx] at h; cases h
      | some y =>
        obtain ⟨n, s⟩ := y
        rw [hx] at h
        cases n with
        | enter f args => exact call_iff.1 h
        | _ => exact ⟨0, h⟩
theorem fchk_cont {g : Option (Src × Bool)} {o : FOp} {s : Src} {ρ : List Value} {σ : St} (h : fchk Q.P Q.gl (callW Q) g o s ρ σ = true) : ∃ n, fchk Q.P Q.gl (fcall Q n) g o s ρ σ = true := by
  unfold fchk at h ⊢
  split at h
  · rename_i hg
    cases hx : fop Q.P Q.gl (callW Q) ρ σ o with
    | none => rw [hx] at h; cases h
    | some y =>
      obtain ⟨n, hn⟩ := fop_cont hx
      rw [hx] at h
      refine ⟨n, ?_⟩
      rw [if_pos hg, hn]
      exact h
  · rename_i hg
    exact ⟨0, by rw [if_neg hg]; exact h⟩
theorem fops_cont : ∀ (l : List FI) {ρ : List Value} {σ : St} {r : FO × St}, fops Q.P Q.gl (callW Q) l ρ σ = some r → ∃ n, fops Q.P Q.gl (fcall Q n) l ρ σ = some r := by
  intro l
  induction l with
  | nil => intro ρ σ r h; exact ⟨0, h⟩
  | cons i l ih =>
    intro ρ σ r h
    cases i with
    | op p g o =>
      simp only [fops] at h ⊢
      split at h
      · rename_i hg
        simp only [hg, if_true]
        cases hx : fop Q.P Q.gl (callW Q) ρ σ o with
        | none => rw [hx] at h; cases h
        | some y =>
          obtain ⟨n1, hn1⟩ := fop_cont hx
          obtain ⟨e, s⟩ := y
          rw [hx] at h
          cases e with
          | ret v =>
            obtain ⟨n2, hn2⟩ := ih h
            refine ⟨max n1 n2, ?_⟩
            rw [fop_mono (fcall_mono Q _ _ (Nat.le_max_left _ _)) hn1]
            exact fops_mono (fcall_mono Q _ _ (Nat.le_max_right _ _)) l hn2
          | panic v => exact ⟨n1, by rw [hn1]; exact h⟩
      · rename_i hg
        simp only [hg, if_false, Bool.false_eq_true]
        exact ih h
    | chk g o s =>
      simp only [fops] at h ⊢
      split at h
      · rename_i hc
        obtain ⟨n1, hn1⟩ := fchk_cont hc
        obtain ⟨n2, hn2⟩ := ih h
        refine ⟨max n1 n2, ?_⟩
        rw [if_pos (fchk_mono (fcall_mono Q _ _ (Nat.le_max_left _ _)) hn1)]
        exact fops_mono (fcall_mono Q _ _ (Nat.le_max_right _ _)) l hn2
      · cases h
    | shuf xs => simp only [fops] at h ⊢; exact ih h

theorem execW_ops (l : List FI) (ρ : List Value) (σ : St) : execW Q (.ops l) ρ σ = opsW Q l ρ σ := by
  refine opt_ext fun r => ?_
  rw [exec_iff]
  constructor
  · rintro ⟨n, h⟩
    exact fops_mono (below_W n) l h
  · intro h
    exact fops_cont l h
theorem execW_seq (a b : FC) (ρ : List Value) (σ : St) : execW Q (.seq a b) ρ σ = match execW Q a ρ σ with
    | some (.nx ρ1, σ1) => execW Q b ρ1 σ1
    | r => r := by
  refine opt_ext fun r => ?_
  rw [exec_iff]
  constructor
  · rintro ⟨n, h⟩
    simp only [fexec] at h
    cases hx : fexec Q.P Q.gl n (fcall Q n) a ρ σ with
    | none => rw [hx] at h; cases h
    | some y =>
      obtain ⟨o, s⟩ := y
      rw [exec_iff.2 ⟨n, hx⟩]
      rw [hx] at h
      cases o with
      | nx ρ1 => exact exec_iff.2 ⟨n, h⟩
      | _ => exact h
  · intro h
    cases hx : execW Q a ρ σ with
    | none => rw [hx] at h; cases h
    | some y =>
      obtain ⟨n1, h1⟩ := exec_iff.1 hx
      obtain ⟨o, s⟩ := y
      rw [hx] at h
      cases o with
      | nx ρ1 =>
        obtain ⟨n2, h2⟩ := exec_iff.1 h
        refine ⟨max n1 n2, ?_⟩
        simp only [fexec]
        rw [fexec_mono (fcall_mono Q _ _ (Nat.le_max_left n1 n2)) (Nat.le_max_left n1 n2) a h1]
        exact fexec_mono (fcall_mono Q _ _ (Nat.le_max_right n1 n2)) (Nat.le_max_right n1 n2) b h2
      | _ =>
        refine ⟨n1, ?_⟩
        simp only [fexec, h1]
        exact h
theorem execW_cond (s : Src) (a b : FC) (ρ : List Value) (σ : St) : execW Q (.cond s a b) ρ σ = match s.ev ρ with
    | .bool t => if t then execW Q a ρ σ else execW Q b ρ σ
    | _ => none := by
  refine opt_ext fun r => ?_
  rw [exec_iff]
  simp only [fexec]
  cases hv : s.ev ρ with
  | bool t =>
    cases t
    · simp only [Bool.false_eq_true, if_false]; exact exec_iff.symm
    · simp only [if_true]; exact exec_iff.symm
  | _ =>
    constructor
    · rintro ⟨n, h⟩; cases h
    · intro h; cases h
theorem execW_block (id : Nat) (c : FC) (ρ : List Value) (σ : St) : execW Q (.block id c) ρ σ = match execW Q c ρ σ with
    | some (.ex i ρ1, σ1) => if i = id then some (.nx ρ1, σ1) else some (.ex i ρ1, σ1)
    | r => r := by
  refine opt_ext fun r => ?_
  rw [exec_iff]
  constructor
  · rintro ⟨n, h⟩
    simp only [fexec] at h
    cases hx : fexec Q.P Q.gl n (fcall Q n) c ρ σ with
    | none => rw [hx] at h; cases h
    | some y =>
      rw [exec_iff.2 ⟨n, hx⟩]
      rw [hx] at h
      exact h
  · intro h
    cases hx : execW Q c ρ σ with
    | none => rw [hx] at h; cases h
    | some y =>
      obtain ⟨n1, h1⟩ := exec_iff.1 hx
      rw [hx] at h
      refine ⟨n1, ?_⟩
      simp only [fexec, h1]
      exact h
theorem execW_exit (id : Nat) (l : List Src) (ρ : List Value) (σ : St) : execW Q (.exit id l) ρ σ = some (.ex id (l.map (·.ev ρ)), σ) := exec_iff.2 ⟨0, rfl⟩
theorem execW_ret (l : List FRes) (ρ : List Value) (σ : St) : execW Q (.ret l) ρ σ = (fresl ρ σ l).map fun vs => (.ret (tup vs), σ) := by
  refine opt_ext fun r => ?_
  rw [exec_iff]
  exact ⟨fun ⟨n, h⟩ => h, fun h => ⟨0, h⟩⟩
theorem loop_eq (c : FC) (ρ : List Value) (σ : St) : execW Q (.loop c) ρ σ = match execW Q c ρ σ with
    | some (.nx ρ1, σ1) => execW Q (.loop c) ρ1 σ1
    | r => r := by
  refine opt_ext fun r => ?_
  rw [exec_iff]
  constructor
  · rintro ⟨n, h⟩
    simp only [fexec] at h
    cases n with
    | zero => cases h
    | succ k =>
      simp only [floop] at h
      cases hx : fexec Q.P Q.gl (k + 1) (fcall Q (k + 1)) c ρ σ with
      | none => rw [hx] at h; cases h
      | some y =>
        obtain ⟨o, s⟩ := y
        rw [exec_iff.2 ⟨k + 1, hx⟩]
        rw [hx] at h
        cases o with
        | nx ρ1 => exact exec_iff.2 ⟨k + 1, floop_mono (fun _ _ _ h => h) k (k + 1) (by omega) h⟩
        | _ => exact h
  · intro h
    cases hx : execW Q c ρ σ with
    | none => rw [hx] at h; cases h
    | some y =>
      obtain ⟨n1, h1⟩ := exec_iff.1 hx
      obtain ⟨o, s⟩ := y
      rw [hx] at h
      cases o with
      | nx ρ1 =>
        obtain ⟨n2, h2⟩ := exec_iff.1 h
        refine ⟨max n1 n2 + 1, ?_⟩
        have l1 : n1 ≤ max n1 n2 + 1 := by omega
        have l2 : n2 ≤ max n1 n2 + 1 := by omega
        simp only [fexec, floop]
        rw [fexec_mono (fcall_mono Q _ _ l1) l1 c h1]
        simp only [fexec] at h2
        exact floop_mono (fun ρ σ r => fexec_mono (fcall_mono Q _ _ l2) l2 c) n2 _ (by omega) h2
      | _ =>
        refine ⟨n1 + 1, ?_⟩
        simp only [fexec, floop]
        rw [fexec_mono (fcall_mono Q _ _ (Nat.le_succ n1)) (Nat.le_succ n1) c h1]
        exact h
/-- A call of a function of the table. -/
theorem callW_eq {f : FuncId} {F : FFun} (hh : Q.hooked f = false) (ht : Q.tab f = some F) (a : List Value) (σ : St) : callW Q f a σ = if a.length = F.na then (match execW Q F.code a σ with
    | some (.ret v, σ1) => some (.ret v, σ1)
    | some (.pan v, σ1) => some (.panic v, σ1)
    | _ => none) else none := by
  refine opt_ext fun r => ?_
  rw [call_iff]
  constructor
  · rintro ⟨n, h⟩
    cases n with
    | zero => cases h
    | succ n =>
      simp only [fcall, hh, Bool.false_eq_true, if_false, ht, fbody] at h
      split
      · rename_i hl
        rw [if_pos hl] at h
        cases hx : fexec Q.P Q.gl (n + 1) (fcall Q n) F.code a σ with
        | none => rw [hx] at h; cases h
        | some y =>
          rw [exec_iff.2 ⟨n + 1, fexec_mono (fcall_mono Q _ _ (Nat.le_succ n)) (Nat.le_refl _) _ hx⟩]
          rw [hx] at h
          exact h
      · rename_i hl
        rw [if_neg hl] at h
        exact h
  · intro h
    split at h
    · rename_i hl
      cases hx : execW Q F.code a σ with
      | none => rw [hx] at h; cases h
      | some y =>
        obtain ⟨n, hn⟩ := exec_iff.1 hx
        rw [hx] at h
        refine ⟨n + 1, ?_⟩
        simp only [fcall, hh, Bool.false_eq_true, if_false, ht, fbody, hl, if_true]
        rw [fexec_mono (fun _ _ _ _ h => h) (Nat.le_succ n) _ hn]
        exact h
    · cases h
theorem callW_hook {f : FuncId} (hh : Q.hooked f = true) (a : List Value) (σ : St) : callW Q f a σ = Q.hook f a σ := by
  refine opt_ext fun r => ?_
  rw [call_iff]
  constructor
  · rintro ⟨n, h⟩
    cases n with
    | zero => cases h
    | succ n => simpa [fcall, hh] using h
  · intro h
    exact ⟨1, by simpa [fcall, hh] using h⟩

theorem opsW_nil (ρ : List Value) (σ : St) : opsW Q [] ρ σ = some (.nx ρ, σ) := rfl
theorem opsW_op (p : Bool) (g : Option (Src × Bool)) (o : FOp) (k : List FI) (ρ : List Value) (σ : St) : opsW Q (.op p g o :: k) ρ σ = if gok ρ g then (match opW Q ρ σ o with
      | some (.ret v, σ1) => opsW Q k (if p then v :: ρ else ρ) σ1
      | some (.panic v, σ1) => some (.pan v, σ1)
      | none => none)
    else opsW Q k (if p then undef :: ρ else ρ) σ := rfl
theorem opsW_chk (g : Option (Src × Bool)) (o : FOp) (s : Src) (k : List FI) (ρ : List Value) (σ : St) : opsW Q (.chk g o s :: k) ρ σ = if fchk Q.P Q.gl (callW Q) g o s ρ σ then opsW Q k ρ σ else none := rfl
theorem opsW_shuf (l : List Src) (k : List FI) (ρ : List Value) (σ : St) : opsW Q (.shuf l :: k) ρ σ = opsW Q k (l.map (·.ev ρ)) σ := rfl
end
end Go.AM
namespace Go.AM
open Go

/-! Words for walks through lowered code. -/
theorem rget_zero (v : Value) (l : List Value) : rget (v :: l) 0 = v := rfl
theorem rget_succ (v : Value) (l : List Value) (n : Nat) : rget (v :: l) (n + 1) = rget l n := rfl
theorem ev_r (i : Nat) (ρ : List Value) : (Src.r i).ev ρ = rget ρ i := rfl
theorem ev_c (v : Value) (ρ : List Value) : (Src.c v).ev ρ = v := rfl
theorem gok_none (ρ : List Value) : gok ρ none = true := rfl
theorem gok_some (ρ : List Value) (s : Src) (b : Bool) : gok ρ (some (s, b)) = match s.ev ρ with | .bool c => c == b | _ => false := rfl

section
variable {Q : FP} {ρ : List Value} {σ : St}
theorem op_mv (x : Src) : opW Q ρ σ (.mv x) = some (.ret (x.ev ρ), σ) := rfl
theorem op_pick (c a b : Src) : opW Q ρ σ (.pick c a b) = match c.ev ρ with | .bool t => some (.ret (if t then a.ev ρ else b.ev ρ), σ) | _ => none := rfl
theorem op_call (f : FuncId) (l : List Src) : opW Q ρ σ (.call f l) = callW Q f (l.map (·.ev ρ)) σ := rfl
theorem op_lenL (x : Src) : opW Q ρ σ (.lenL x) = match x.ev ρ with | .slice _ n _ => some (.ret (.int .i64 n), σ) | _ => none := rfl
theorem op_lenS (x : Src) : opW Q ρ σ (.lenS x) = match x.ev ρ with | .string s => some (.ret (.int .i64 s.data.toList.length), σ) | _ => none := rfl
theorem op_bin (o : BinOp) (x y : Src) : opW Q ρ σ (.bin o x y) = (fbin o (x.ev ρ) (y.ev ρ)).map fun v => (.ret v, σ) := rfl
theorem op_nt (x : Src) : opW Q ρ σ (.nt x) = match x.ev ρ with | .bool b => some (.ret (.bool !b), σ) | _ => none := rfl
theorem op_bbin (n : Bool) (x y : Src) : opW Q ρ σ (.bbin n x y) = match x.ev ρ, y.ev ρ with | .bool a, .bool b => some (.ret (.bool (if n then !(a == b) else a == b)), σ) | _, _ => none := rfl
theorem op_sbin (n : Bool) (ks : List Nat) (x y : Src) : opW Q ρ σ (.sbin n ks x y) = match x.ev ρ, y.ev ρ with | .agg xs, .agg ys => (cellsEq ks xs.toList ys.toList).map fun b => (.ret (.bool (if n then !b else b)), σ) | _, _ => none := rfl
theorem op_iad (sz : Nat) (x i : Src) : opW Q ρ σ (.iad sz x i) = match x.ev ρ, i.ev ρ with | .slice (some a) len _, .int _ j => (fidx j len).map fun i => (.ret (.pointer (some (a.add (i * sz)))), σ) | _, _ => none := rfl
theorem op_lda (n : Nat) (x : Src) : opW Q ρ σ (.lda n x) = match x.ev ρ with | .pointer (some ⟨b, o, none⟩) => (σ.row? ⟨b, o, none⟩ n).map fun l => (.ret (.agg l.toArray), σ) | _ => none := rfl
theorem op_ld (x : Src) : opW Q ρ σ (.ld x) = match x.ev ρ with | .pointer (some a) => (σ.cell? a).map fun v => (.ret v, σ) | _ => none := rfl
end
theorem fbin_lt (a b : Nat) : fbin .lss (.int .i64 a) (.int .i64 b) = some (.bool (decide (a < b))) := by
  show some (Value.bool (filt a b)) = _
  rw [filt_eq]
  congr 2
  simp
theorem fbin_ne (a b : Nat) : fbin .neq (.int .i64 a) (.int .i64 b) = some (.bool (decide (a ≠ b))) := by
  show some (Value.bool (!fieq a b)) = _
  rw [fieq_eq]
  congr 2
  rw [Bool.eq_iff_iff]
  simp [Int.ofNat_inj]
theorem fbin_inc {a : Nat} (h : a < 9223372036854775807) : fbin .add (.int .i64 a) (.int .i64 1) = some (.int .i64 ((a + 1 : Nat) : Int)) := by
  show some (Value.int .i64 (fwrap .i64 ((a : Int) + 1))) = _
  rw [fwrap_eq, wrap_in]
  · rfl
  · rw [kin_iff]; simp only [kneg, kmax]; omega
end Go.AM
namespace Go.AM
open Go

/-! From the machine of the lowered code to the real one, and back into hooks. -/
section
variable {P : Program} {φ : PMap} {σ : St} {w w1 : World}
theorem ro_block {n h : Nat} {o : AObj} (ho : RO P φ n h w o) (hl : live o = true) : (φ.at_ h).block < w.heap.size := by
  have key : ∀ {b : Nat} {x : Obj}, w.heap[b]? = some x → b < w.heap.size := fun h => (Array.getElem?_eq_some_iff.1 h).1
  cases o with
  | dead => cases hl
  | cells cs t wr => obtain ⟨_, cs', t', fr, h2, _⟩ := ho; exact key h2
  | map es cl => obtain ⟨r, es', h1, h2, _⟩ := ho; rw [h1]; exact key h2
  | iter s p => obtain ⟨r, h1, h2⟩ := ho; rw [h1]; exact key h2
theorem rh_below (hr : RH P φ σ w) (hb : RowKit.Below w.heap.size w w1) : RH P φ σ w1 := by
  refine ⟨fun h o hg => ?_, hr.apart⟩
  have ho := hr.objs h o hg
  by_cases hl : live o = true
  · exact ho.keep (hb.block _ (ro_block ho hl))
  · cases o <;> first | trivial | exact absurd rfl hl
theorem frm_below (hb : RowKit.Below w.heap.size w w1) : Frm φ σ w φ σ w1 :=
  ⟨Ext.refl _ _, Nat.le_refl _, hb.size, hb.os, hb.tape, hb.output, fun b hlt _ => hb.block b hlt, fun b h => .inr h, fun k x hk hx => .inl ⟨St.get_lt hk, x, hk, hx⟩⟩
/-- A call that only makes memory of its own, and gives a value that is known. -/
theorem hook_below {f : FuncId} {args' : Array Value} {v v' : Value} (hr : RH P φ σ w) (hv : RV φ σ.n v v') (h : Calls P f args' w fun e w1 => e = .returned v' ∧ RowKit.Below w.heap.size w w1) : Calls P f args' w (ERel P φ σ w (.ret v) σ) :=
  h.mono fun e w1 ⟨he, hb⟩ => ⟨φ, frm_below hb, rh_below hr hb, by subst he; exact hv⟩
/-- Nothing is owned: nothing that was there has turned. -/
theorem below_frm {φ1 : PMap} {σ1 : St} (hf : Frm φ σ w φ1 σ1 w1) (hn : ∀ h o, σ.get h = some o → own o = false) : RowKit.Below w.heap.size w w1 :=
  ⟨hf.os, hf.tape, hf.output, hf.size_le, fun b hb => hf.block b hb fun ⟨h, o, hg, ho, _⟩ => by rw [hn h o hg] at ho; cases ho⟩
end

/-- All that is asked of a program and its lowered form. -/
structure Fine (Q : FP) (G : Cfg) : Prop where
  low : Lowered Q G
  names : namesOk Q.P
  draw : DrawSound Q.P G
  hooks : HookSound Q.P G
  codes : codesGood Q.P G
theorem callW_sound {Q : FP} {G : Cfg} (hF : Fine Q G) : Sound Q.P G (callW Q) := by
  intro f args σ e σ1 h
  obtain ⟨n, hn⟩ := call_iff.1 h
  exact acall_sound hF.names hF.draw hF.hooks hF.codes n f args σ e σ1 (fcall_sound hF.low n f args σ (e, σ1) hn)
/-- A call out of a heap of which nothing is owned. -/
theorem top_sound {Q : FP} {G : Cfg} (hF : Fine Q G) {f : FuncId} {args : List Value} {σ σ1 : St} {v : Value} (h : callW Q f args σ = some (.ret v, σ1)) {φ : PMap} {w : World} {args' : Array Value}
    (hr : RH Q.P φ σ w) (hg : GL G φ σ) (ha : RVl φ σ.n args args'.toList) (hn : ∀ h o, σ.get h = some o → own o = false) :
    Calls Q.P f args' w fun e w1 => ∃ v' φ1, e = .returned v' ∧ RV φ1 σ1.n v v' ∧ RH Q.P φ1 σ1 w1 ∧ RowKit.Below w.heap.size w w1 := by
  refine (callW_sound hF f args σ (.ret v) σ1 h φ w args' hr hg ha).mono fun e w1 hE => ?_
  obtain ⟨φ1, hf, hr1, hv⟩ := hE
  cases e with
  | returned v' => exact ⟨v', φ1, rfl, hv, hr1, below_frm hf hn⟩
  | panicked c => exact hv.elim
  | outgrown => exact hv.elim

/-! What is looked at once for a table of functions. -/
def Good (P : Program) (G : Cfg) (f : Nat) (F : FFun) : Prop := ∃ fn sk, P.funcs[f]? = some fn ∧ lowF P G F.na sk fn = some F.code ∧ fn.body.all (codeGood G) = true
def noNum (P : Program) : Bool := P.funcs.toList.all fun fn => !(fn.name == "runtime.NumGoroutine")
theorem names_of {P : Program} (h : noNum P = true) : namesOk P := by
  intro f fn hf
  unfold noNum at h
  rw [List.all_eq_true] at h
  have := h fn (Array.mem_toList_iff.2 (Array.mem_of_getElem? hf))
  simpa using this
/-- The looks at a program: a base without draws, a table, hooks. -/
def cfgOf (gl : Nat → Option Nat) (t : FT) (hooked : FuncId → Bool) (hook : FuncId → List Value → St → AOut) : Cfg :=
  { gl := gl, ok := fun f => (t.find f).isSome, hooked := hooked, hook := hook
    draw := fun P call ops env σ => adraw { gl := gl, ok := fun f => (t.find f).isSome, hooked := hooked, hook := hook, draw := fun _ _ _ _ _ => none } P call ops env σ }
def fpOf (P : Program) (gl : Nat → Option Nat) (t : FT) (hooked : FuncId → Bool) (hook : FuncId → List Value → St → AOut) : FP := { P := P, gl := gl, tab := t.find, hooked := hooked, hook := hook }
theorem fine_of {P : Program} {gl : Nat → Option Nat} {t : FT} {hooked : FuncId → Bool} {hook : FuncId → List Value → St → AOut} (hn : noNum P = true) (hm : P.follows .mixedOrders = true) (hA : t.All (Good P (cfgOf gl t hooked hook)))
    (hh : HookSound P (cfgOf gl t hooked hook)) : Fine (fpOf P gl t hooked hook) (cfgOf gl t hooked hook) where
  low := by
    refine ⟨rfl, rfl, fun _ _ _ _ _ h => h, fun call ops env σ => ?_, fun f F _ hF => ?_⟩
    · exact adraw_gl (G := cfgOf gl t hooked hook) (G' := { gl := gl, ok := fun f => (t.find f).isSome, hooked := hooked, hook := hook, draw := fun _ _ _ _ _ => none }) rfl call ops env σ
    · obtain ⟨fn, sk, h1, h2, h3⟩ := FT.all_find hA hF
      refine ⟨?_, fn, sk, h1, h2⟩
      show (t.find f).isSome = true
      rw [show t.find f = some F from hF]
      rfl
  names := names_of hn
  draw := adraw_sound (names_of hn) hm (G' := { gl := gl, ok := fun f => (t.find f).isSome, hooked := hooked, hook := hook, draw := fun _ _ _ _ _ => none }) rfl rfl
  hooks := hh
  codes := by
    intro f fn c hok hf hb
    have hok' : (t.find f).isSome = true := hok
    cases hF : t.find f with
    | none => rw [hF] at hok'; cases hok'
    | some F =>
      obtain ⟨fn', sk, h1, h2, h3⟩ := FT.all_find hA hF
      rw [show P.funcs[f]? = some fn from hf] at h1
      injection h1 with h1
      subst h1
      rw [hb] at h3
      exact h3
end Go.AM
namespace Go.AM
open Go

/-! A result out of a call over another heap; blocks that only the real machine knows. -/
section
variable {P : Program} {φ φB φ1 : PMap} {σ σB σ1 : St} {w w1 : World}

theorem rv_leaf_eq {n : Nat} {v v' : Value} (h : cleanLeaf v = true) (hv : RV φ n v v') : v' = v := by
  cases hv <;> first | rfl | (simp [cleanLeaf] at h)
theorem rvl_leaf_eq {n : Nat} : ∀ {l l' : List Value}, l.all cleanLeaf = true → RVl φ n l l' → l' = l
  | [], _, _, h => by cases h; rfl
  | x :: l, _, hc, h => by
    simp only [List.all_cons, Bool.and_eq_true] at hc
    cases h with
    | cons hx hl => rw [rv_leaf_eq hc.1 hx, rvl_leaf_eq hc.2 hl]
theorem rv_clean_eq {n : Nat} {v v' : Value} (h : cleanV v = true) (hv : RV φ n v v') : v' = v := by
  cases hv
  case agg a a' ha =>
    have : a'.toList = a.toList := rvl_leaf_eq h ha
    rw [Array.toList_inj.1 this]
  all_goals first | rfl | (simp [cleanV, cleanLeaf] at h)
theorem rvl_clean_eq {n : Nat} : ∀ {l l' : List Value}, l.all cleanV = true → RVl φ n l l' → l' = l
  | [], _, _, h => by cases h; rfl
  | x :: l, _, hc, h => by
    simp only [List.all_cons, Bool.and_eq_true] at hc
    cases h with
    | cons hx hl => rw [rv_clean_eq hc.1 hx, rvl_clean_eq hc.2 hl]

/-- A handle whose content is not kept. -/
theorem RH.allocDead (hr : RH P φ σ w) (a : Addr) (room sz : Nat) : RH P (φ.new σ.n a room sz) (σ.alloc .dead) w := by
  have key : ∀ k x, (σ.alloc .dead).get k = some x → (k = σ.n ∧ x = .dead) ∨ (k ≠ σ.n ∧ σ.get k = some x) := by
    intro k x hx
    rw [St.get_alloc] at hx
    split at hx
    · injection hx with hx
      exact .inl ⟨by assumption, hx.symm⟩
    · exact .inr ⟨by assumption, hx⟩
  have hat : ∀ k, k ≠ σ.n → (φ.new σ.n a room sz).at_ k = φ.at_ k := fun k hk => by simp [PMap.new, hk]
  constructor
  · intro k x hk
    rcases key k x hk with ⟨rfl, rfl⟩ | ⟨hne, hk'⟩
    · trivial
    · exact RO.mono (PMap.new_ext _ _ _ _ _) (Nat.le_succ _) (St.get_lt hk') (hr.objs k x hk')
  · intro j1 j2 y1 y2 h1 h2 hy1 hy2 hne
    rcases key j1 y1 h1 with ⟨rfl, rfl⟩ | ⟨e1, h1'⟩
    · simp [own] at hy1
    · rcases key j2 y2 h2 with ⟨rfl, rfl⟩ | ⟨e2, h2'⟩
      · simp [live] at hy2
      · rw [hat j1 e1, hat j2 e2]
        exact hr.apart j1 j2 y1 y2 h1' h2' hy1 hy2 hne
theorem Frm.allocDead (φ : PMap) (σ : St) (w : World) (a : Addr) (room sz : Nat) : Frm φ σ w (φ.new σ.n a room sz) (σ.alloc .dead) w := by
  have key : ∀ k x, (σ.alloc .dead).get k = some x → (k = σ.n ∧ x = .dead) ∨ (k ≠ σ.n ∧ σ.get k = some x) := by
    intro k x hx
    rw [St.get_alloc] at hx
    split at hx
    · injection hx with hx
      exact .inl ⟨by assumption, hx.symm⟩
    · exact .inr ⟨by assumption, hx⟩
  refine ⟨PMap.new_ext _ _ _ _ _, Nat.le_succ _, Nat.le_refl _, rfl, rfl, rfl, fun _ _ _ => rfl, ?_, ?_⟩
  · rintro b ⟨k, y, hk, hy, rfl⟩
    rcases key k y hk with ⟨rfl, rfl⟩ | ⟨hne, hk'⟩
    · cases hy
    · exact .inr ⟨k, y, hk', hy, by simp [PMap.new, hne]⟩
  · intro k y hk hy
    rcases key k y hk with ⟨rfl, rfl⟩ | ⟨hne, hk'⟩
    · simp [live] at hy
    · exact .inl ⟨St.get_lt hk', y, hk', hy⟩

/-- A row that a call over another heap (of which nothing is owned) has made, lent to this one, for reading. -/
theorem RH.lend (hr : RH P φ σ w) (hf : Frm φB σB w φ1 σ1 w1) (hn : ∀ h o, σB.get h = some o → own o = false) (hr1 : RH P φ1 σ1 w1) {hh : Nat} {cs : List Value} {t : TypeId} {wr : Bool} (hge : σB.n ≤ hh)
    (hg : σ1.get hh = some (.cells cs t wr)) (hc : cs.all cleanV = true) :
    Frm φ σ w (φ.new σ.n (φ1.at_ hh) (φ1.room hh) (φ1.sz hh)) (σ.alloc (.cells cs t false)) w1 ∧ RH P (φ.new σ.n (φ1.at_ hh) (φ1.room hh) (φ1.sz hh)) (σ.alloc (.cells cs t false)) w1 ∧
      ∀ o l c v', RV φ1 σ1.n (.slice (some ⟨hh, o, none⟩) l c) v' → RV (φ.new σ.n (φ1.at_ hh) (φ1.room hh) (φ1.sz hh)) (σ.n + 1) (.slice (some ⟨σ.n, o, none⟩) l c) v' := by
  have hb := below_frm hf hn
  have hr' : RH P φ σ w1 := rh_below hr hb
  have hfr : Frm φ σ w φ σ w1 := frm_below hb
  have hat : ∀ k, k ≠ σ.n → (φ.new σ.n (φ1.at_ hh) (φ1.room hh) (φ1.sz hh)).at_ k = φ.at_ k := fun k hk => by simp [PMap.new, hk]
  have hatn : (φ.new σ.n (φ1.at_ hh) (φ1.room hh) (φ1.sz hh)).at_ σ.n = φ1.at_ hh := by simp [PMap.new]
  have hblk : w.heap.size ≤ (φ1.at_ hh).block := by
    rcases hf.lives hh _ hg rfl with ⟨h1, _⟩ | ⟨_, h1 | ⟨k, o, h1, h2, h3⟩⟩
    · omega
    · exact h1
    · rw [hn k o h1] at h2; cases h2
  have key : ∀ k x, (σ.alloc (.cells cs t false)).get k = some x → (k = σ.n ∧ x = .cells cs t false) ∨ (k ≠ σ.n ∧ σ.get k = some x) := by
    intro k x hx
    rw [St.get_alloc] at hx
    split at hx
    · injection hx with hx
      exact .inl ⟨by assumption, hx.symm⟩
    · exact .inr ⟨by assumption, hx⟩
  refine ⟨⟨PMap.new_ext _ _ _ _ _, Nat.le_succ _, hfr.size_le, hfr.os, hfr.tape, hfr.output, hfr.block, ?_, ?_⟩, ⟨?_, ?_⟩, ?_⟩
  · rintro b ⟨k, y, hk, hy, rfl⟩
    rcases key k y hk with ⟨rfl, rfl⟩ | ⟨hne, hk'⟩
    · simp [own] at hy
    · rw [hat k hne]; exact .inr ⟨k, y, hk', hy, rfl⟩
  · intro k y hk hy
    rcases key k y hk with ⟨rfl, rfl⟩ | ⟨hne, hk'⟩
    · rw [hatn]; exact .inr ⟨Nat.le_refl _, .inl hblk⟩
    · exact .inl ⟨St.get_lt hk', y, hk', hy⟩
  · intro k x hk
    rcases key k x hk with ⟨rfl, rfl⟩ | ⟨hne, hk'⟩
    · obtain ⟨⟨h1, h2⟩, cs', t', fr, h3, h4, h5, h6⟩ := hr1.objs hh _ hg
      refine ⟨⟨by rw [hatn]; exact h1, h2⟩, cs', t', fr, by rw [hatn]; exact h3, fun i v hv => ?_, fun s hs => ?_, fun hw => by cases hw⟩
      · obtain ⟨v', g1, g2⟩ := h4 i v hv
        have hcl := List.all_eq_true.1 hc v (List.mem_of_getElem? hv)
        refine ⟨v', by rw [hatn]; exact g1, ?_⟩
        rw [rv_clean_eq hcl g2]
        exact rv_clean hcl _ _
      · simp only [PMap.new, if_true]; exact h5 s hs
    · exact RO.mono (PMap.new_ext _ _ _ _ _) (Nat.le_succ _) (St.get_lt hk') (hr'.objs k x hk')
  · intro j1 j2 y1 y2 h1 h2 hy1 hy2 hne
    rcases key j1 y1 h1 with ⟨rfl, rfl⟩ | ⟨e1, h1'⟩
    · simp [own] at hy1
    · rcases key j2 y2 h2 with ⟨rfl, rfl⟩ | ⟨e2, h2'⟩
      · rw [hat j1 e1, hatn]
        have : live y1 = true := live_of_own hy1
        have := ro_block (hr.objs j1 y1 h1') this
        omega
      · rw [hat j1 e1, hat j2 e2]
        exact hr'.apart j1 j2 y1 y2 h1' h2' hy1 hy2 hne
  · intro o l c v' hv
    cases hv with
    | slice _ _ o' _ _ c' g1 g2 g3 g4 g5 g6 =>
      have := RV.slice (φ := φ.new σ.n (φ1.at_ hh) (φ1.room hh) (φ1.sz hh)) (n := σ.n + 1) σ.n o o' l c c' (Nat.lt_succ_self _) (by rw [hatn]; exact g2) (by rw [hatn]; exact g3) g4 g5 (by rw [hatn]; simpa [PMap.new] using g6)
      rw [hatn] at this
      exact this
end
end Go.AM
namespace Go.AM
open Go
open Go.ChangeMaps (setBlock)

/-! A range over a map: the iterator is known to the real machine only. -/
section
variable {P : Program} {φ φ0 φ1 : PMap} {σ σ0 σ1 : St} {w w0 w1 : World}

structure Iter (φ : PMap) (σ : St) (w : World) (hi r bm since : Nat) (seen : Array Nat) : Prop where
  at_ : φ.at_ hi = ⟨r, 0, none⟩
  lt : hi < σ.n
  obj : w.heap[r]? = some (.mapIter (some bm) since seen since)
  apart : ∀ k x, σ.get k = some x → live x = true → (φ.at_ k).block ≠ r

theorem Iter.frm {hi r bm since : Nat} {seen : Array Nat} (h : Iter φ σ w hi r bm since seen) (hf : Frm φ σ w φ1 σ1 w1) : Iter φ1 σ1 w1 hi r bm since seen := by
  have hr := (Array.getElem?_eq_some_iff.1 h.obj).1
  refine ⟨((hf.ext hi h.lt).1).trans h.at_, Nat.lt_of_lt_of_le h.lt hf.n_le, (hf.block r hr fun ⟨k, o, hk, ho, e⟩ => h.apart k o hk (live_of_own ho) e).trans h.obj, fun k x hk hx e => ?_⟩
  rcases hf.lives k x hk hx with ⟨h1, x0, h2, h3⟩ | ⟨h1, h2 | ⟨j, o, h2, h3, h4⟩⟩
  · rw [(hf.ext k h1).1] at e
    exact h.apart k x0 h2 h3 e
  · omega
  · exact h.apart j o h2 (live_of_own h3) (h4.trans e)

theorem rh_set (hr : RH P φ σ w) {r : Nat} (hap : ∀ k x, σ.get k = some x → live x = true → (φ.at_ k).block ≠ r) (hne : ∀ b, b ≠ r → w1.heap[b]? = w.heap[b]?) : RH P φ σ w1 := by
  refine ⟨fun k x hk => ?_, hr.apart⟩
  by_cases hl : live x = true
  · exact (hr.objs k x hk).keep (hne _ (hap k x hk hl))
  · cases x <;> first | trivial | exact absurd rfl hl
theorem frm_set (hf : Frm φ0 σ0 w0 φ σ w) {r : Nat} (hge : w0.heap.size ≤ r) (hsz : w1.heap.size = w.heap.size) (e1 : w1.os = w.os) (e2 : w1.tape = w.tape) (e3 : w1.output = w.output) (hne : ∀ b, b ≠ r → w1.heap[b]? = w.heap[b]?) : Frm φ0 σ0 w0 φ σ w1 :=
  ⟨hf.ext, hf.n_le, by rw [hsz]; exact hf.size_le, e1.trans hf.os, e2.trans hf.tape, e3.trans hf.output, fun b hb ho => (hne b (by omega)).trans (hf.block b hb ho), hf.own, hf.lives⟩

/-- A map whose keys and values hold no address. -/
theorem map_clean (hr : RH P φ σ w) {m : Nat} {es : Array MapEntry} {cl : Nat} (hg : σ.get m = some (.map es cl)) (hc : (es.toList.all fun e => cleanV e.key && cleanV e.val) = true) :
    ∃ bm, φ.at_ m = ⟨bm, 0, none⟩ ∧ w.heap[bm]? = some (.map es cl) := by
  obtain ⟨bm, es', h1, h2, h3, h4⟩ := hr.objs m _ hg
  refine ⟨bm, h1, ?_⟩
  have : es' = es := by
    apply Array.ext_getElem?
    intro i
    cases hi : es[i]? with
    | none =>
      have := Array.getElem?_eq_none_iff.1 hi
      exact Array.getElem?_eq_none (by omega)
    | some e =>
      obtain ⟨e', g1, g2, g3, g4⟩ := h4 i e hi
      have hcl := List.all_eq_true.1 hc e (Array.mem_toList_iff.2 (Array.mem_of_getElem? hi))
      rw [Bool.and_eq_true] at hcl
      rw [g1]
      congr 1
      obtain ⟨k, v, b⟩ := e
      obtain ⟨k', v', b'⟩ := e'
      simp only at g2 g3 g4 hcl
      rw [g2, rv_clean_eq hcl.1 g3, rv_clean_eq hcl.2 g4]
  rw [this] at h2
  exact h2

/-- 'range m'. -/
theorem range_sim (hr : RH P φ σ w) {m : Nat} {es : Array MapEntry} {cl : Nat} (hg : σ.get m = some (.map es cl)) (hc : (es.toList.all fun e => cleanV e.key && cleanV e.val) = true) {t k e : TypeId} (ht : P.underlying t = some (.map k e)) {bm : Nat} (hbm : φ.at_ m = ⟨bm, 0, none⟩) :
    ∃ φ1 w1, (Instr.range t (.map (some bm))).run P w = .ok (.pointer (some ⟨w.heap.size, 0, none⟩)) w1 ∧ Frm φ σ w φ1 (σ.alloc .dead) w1 ∧ RH P φ1 (σ.alloc .dead) w1 ∧ Iter φ1 (σ.alloc .dead) w1 σ.n w.heap.size bm cl #[] := by
  obtain ⟨bm', h1, h2⟩ := map_clean hr hg hc
  rw [h1] at hbm
  injection hbm with hbm
  subst hbm
  have hb : RowKit.Below w.heap.size w (w.alloc (.mapIter (some bm') cl #[] cl)) := (RowKit.Below.refl _ _).alloc (Nat.le_refl _) _
  have hr' := rh_below hr hb
  refine ⟨φ.new σ.n ⟨w.heap.size, 0, none⟩ 0 0, _, run_range_map w t k e bm' es cl ht h2, (frm_below hb).trans (Frm.allocDead _ _ _ _ _ _), hr'.allocDead _ _ _, by simp [PMap.new], Nat.lt_succ_self _, ?_, ?_⟩
  · show (w.heap.push _)[w.heap.size]? = _; simp
  · intro j x hj hx
    rw [St.get_alloc] at hj
    split at hj
    · injection hj with hj; subst hj; cases hx
    · rename_i hne
      have := hr.inside j x hj hx
      simp only [PMap.new, if_neg hne]
      omega

/-- The step: nothing is left, or an entry, whichever. -/
theorem next_sim (hr : RH P φ σ w) {hi r bm cl : Nat} {seen : Array Nat} (hI : Iter φ σ w hi r bm cl seen) {m : Nat} {es : Array MapEntry} (hg : σ.get m = some (.map es cl)) (hc : (es.toList.all fun e => cleanV e.key && cleanV e.val) = true) (hbm : φ.at_ m = ⟨bm, 0, none⟩)
    (hold : ∀ x ∈ es.toList, x.born < cl) (hn : (es.toList.map (·.born)).Nodup) (ty : TypeId) :
    ((leftOf es seen).size = 0 ∧ (Instr.next (.pointer (some ⟨r, 0, none⟩)) false ty).run P w = .ok (.tuple #[.bool false]) w) ∨
    ∃ e ∈ (leftOf es seen).toList, ∃ w1, (Instr.next (.pointer (some ⟨r, 0, none⟩)) false ty).run P w = .ok (.tuple #[.bool true, e.key, e.val]) w1 ∧ RH P φ σ w1 ∧ Iter φ σ w1 hi r bm cl (seen.push e.born) ∧
      (∀ φ0 σ0 w0, Frm φ0 σ0 w0 φ σ w → w0.heap.size ≤ r → Frm φ0 σ0 w0 φ σ w1) ∧ (Instr.entry (.pointer (some ⟨r, 0, none⟩))).run P w1 = .ok (.tuple #[e.key, e.val]) w1 := by
  obtain ⟨bm', h1, h2⟩ := map_clean hr hg hc
  rw [h1] at hbm
  injection hbm with hbm
  subst hbm
  have hrlt := (Array.getElem?_eq_some_iff.1 hI.obj).1
  rcases run_next_at (P := P) w ty r bm' cl cl seen es cl hI.obj h2 hold (Nat.le_refl _) with ⟨h3, h4⟩ | ⟨e, he, w2, hal, hrun⟩
  · exact .inl ⟨h3, h4⟩
  · have hne2 : ∀ b, b ≠ r → (setBlock w2 r (.mapIter (some bm') cl (seen.push e.born) cl)).heap[b]? = w.heap[b]? := by
      intro b hb
      have : w2.heap = w.heap := by rcases hal with rfl | rfl <;> rfl
      simp only [setBlock, this]
      rw [Array.getElem?_setIfInBounds_ne (fun x => hb x.symm)]
    have hat : (setBlock w2 r (.mapIter (some bm') cl (seen.push e.born) cl)).heap[r]? = some (.mapIter (some bm') cl (seen.push e.born) cl) := by
      have : w2.heap = w.heap := by rcases hal with rfl | rfl <;> rfl
      simp only [setBlock, this]
      simp [hrlt]
    have hsz : (setBlock w2 r (.mapIter (some bm') cl (seen.push e.born) cl)).heap.size = w.heap.size := by
      have : w2.heap = w.heap := by rcases hal with rfl | rfl <;> rfl
      simp [setBlock, this]
    have hmr : bm' ≠ r := by
      have := hI.apart m _ hg rfl
      rwa [h1] at this
    refine .inr ⟨e, he, _, hrun, rh_set hr hI.apart hne2, ⟨hI.at_, hI.lt, hat, hI.apart⟩, fun φ0 σ0 w0 hf hge => frm_set hf hge hsz ?_ ?_ ?_ hne2, run_entry_at _ r bm' cl seen es cl e hat ((hne2 bm' hmr).trans h2) (mem_left he).1 hn⟩
    · rcases hal with rfl | rfl <;> rfl
    · rcases hal with rfl | rfl <;> rfl
    · rcases hal with rfl | rfl <;> rfl

/-- The round's key and value. -/
theorem entry_run (hr : RH P φ σ w) {hi r bm cl : Nat} {seen : Array Nat} {e : MapEntry} (hI : Iter φ σ w hi r bm cl (seen.push e.born)) {m : Nat} {es : Array MapEntry} (hg : σ.get m = some (.map es cl)) (hc : (es.toList.all fun e => cleanV e.key && cleanV e.val) = true) (hbm : φ.at_ m = ⟨bm, 0, none⟩)
    (hn : (es.toList.map (·.born)).Nodup) (he : e ∈ es.toList) : (Instr.entry (.pointer (some ⟨r, 0, none⟩))).run P w = .ok (.tuple #[e.key, e.val]) w := by
  obtain ⟨bm', h1, h2⟩ := map_clean hr hg hc
  rw [h1] at hbm
  injection hbm with hbm
  subst hbm
  exact run_entry_at _ r bm' cl seen es cl e hI.obj h2 he hn

/-- One operation by hand; the rest of the region behind it. -/
theorem wpList_value {ops : Array Oper} {Q : Exit → Act → World → Prop} {o : Oper} {l : List Oper} {a : Act} {v : Value} (hg : o.guard = none) (h : (execOp a.eval o).run P w = .ok (.value v) w1) (hk : wpList P ops Q l (a.put o.dst v) w1) : wpList P ops Q (o :: l) a w := by
  unfold wpList
  rw [if_pos (by simp [Region.wanted, hg])]
  left
  unfold Oper.wp
  rw [h]
  exact hk
end
end Go.AM

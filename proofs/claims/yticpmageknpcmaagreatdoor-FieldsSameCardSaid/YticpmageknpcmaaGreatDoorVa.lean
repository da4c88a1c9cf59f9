/- A part of the proof that FieldsSame, called with any two lists of tags (the laid tables as the text lays them), returns true and leaves its arguments as they were. Here: fields.values in the awakening. -/
import Derived.Test.YticpmageknpcmaaGreatDoorProg
import Derived.Test.YticpmageknpcmaaGreatDoorAmF
import Derived.Test.YticpmageknpcmaaGreatDoorCo
import Derived.Test.YticpmageknpcmaaGreatDoorHk
import Derived.KernelRfl
set_option linter.unusedVariables false
set_option linter.unusedSimpArgs false
set_option maxRecDepth 100000
namespace Go.AM.Fld
open Go Go.AM Go.Proofs

/-! fields.values of the one recipe that the awakening reads. -/
def nobody (f : FuncId) (args : List Value) (σ : St) : AOut := none
abbrev none_ (f : FuncId) : Bool := false
def fgl (g : Nat) : Option Nat := if Nat.blt g 8 then some g else none
def sV20 : Sk := (.seq .leaf (.seq (.seq .leaf (.block [] (.seq .leaf (.cond [] (.seq .leaf .leaf) (.seq .leaf (.cond [] (.seq .leaf .leaf) (.seq (.seq .leaf (.cond [1, 2, 6, 21] .leaf .leaf)) (.cond [] (.seq .leaf .leaf) (.seq .leaf (.cond [] (.seq .leaf .leaf) .leaf)))))))))) (.seq .leaf .leaf)))
def sV45 : Sk := (.seq .leaf (.seq (.seq .leaf (.block [] (.loop [1, 12, 13, 14] (.seq .leaf (.seq (.cond [1, 12, 13, 14] .leaf .leaf) (.seq (.block [1, 12, 13, 14] (.seq .leaf (.seq (.seq .leaf (.cond [1, 6, 12, 13, 14] .leaf .leaf)) (.seq .leaf (.seq (.seq .leaf (.cond [1, 7] .leaf .leaf)) (.seq .leaf (.seq (.seq .leaf (.block [9] (.loop [1, 9, 29, 30, 31] (.seq .leaf (.seq (.cond [1, 9, 29, 30, 31] .leaf .leaf) (.seq (.block [1, 9, 29, 30, 31] (.seq .leaf (.seq .leaf (.cond [1, 9, 29, 30, 31] .leaf .leaf)))) .leaf)))))) (.seq .leaf .leaf)))))))) .leaf)))))) (.seq .leaf .leaf)))
def sV52 : Sk := (.seq .leaf (.seq .leaf .leaf))
def sV60 : Sk := (.seq .leaf (.seq (.seq .leaf (.block [] (.loop [0, 5, 6] (.seq .leaf (.seq (.cond [0, 5, 6] .leaf .leaf) (.seq (.block [0, 5, 6] (.seq .leaf (.seq .leaf (.cond [0, 5, 6] (.seq .leaf .leaf) .leaf)))) .leaf)))))) (.seq .leaf .leaf)))
def sV80 : Sk := (.seq .leaf (.seq .leaf (.seq (.seq .leaf (.cond [0] (.seq .leaf .leaf) .leaf)) (.seq .leaf (.seq (.block [5] (.loop [0, 5] (.seq (.seq .leaf (.cond [0, 5] .leaf .leaf)) (.block [0, 5] (.seq (.seq .leaf (.cond [0, 5] (.seq .leaf .leaf) .leaf)) (.seq (.seq .leaf (.cond [0, 5] (.seq .leaf .leaf) .leaf)) (.seq .leaf (.seq .leaf (.seq .leaf (.seq .leaf (.seq .leaf (.cond [0, 5] (.seq (.seq .leaf (.cond [0, 5] (.seq .leaf .leaf) .leaf)) .leaf) .leaf)))))))))))) (.seq .leaf .leaf))))))
def sV86 : Sk := (.seq .leaf (.seq .leaf (.seq (.block [0, 1, 5] (.seq .leaf (.cond [0, 1, 5] (.seq .leaf .leaf) (.seq .leaf (.cond [0, 1, 5] (.seq .leaf .leaf) (.seq .leaf (.cond [0, 1, 5] (.seq .leaf .leaf) (.seq .leaf (.cond [0, 1, 5] (.seq .leaf .leaf) .leaf))))))))) (.seq .leaf (.seq .leaf (.seq .leaf (.seq .leaf (.seq .leaf (.seq (.block [] (.loop [0, 1, 5, 6, 7, 8, 9, 10] (.seq (.seq .leaf (.cond [0, 1, 5, 6, 7, 8, 9, 10] .leaf .leaf)) (.block [0, 1, 5, 6, 7, 8, 9, 10] (.seq (.seq .leaf (.cond [0, 1, 5, 6, 7, 8, 9, 10] (.seq .leaf (.seq (.seq .leaf (.cond [0, 1, 5, 6, 7, 8, 9, 10, 11] (.seq .leaf .leaf) .leaf)) .leaf)) .leaf)) (.seq (.seq .leaf (.cond [0, 1, 5, 6, 7, 8, 9, 10] (.seq .leaf .leaf) .leaf)) (.seq .leaf (.seq .leaf (.seq .leaf (.cond [0, 1, 5, 6, 7, 8, 9, 10] (.seq .leaf (.seq (.seq .leaf (.cond [] (.seq .leaf .leaf) .leaf)) (.seq .leaf .leaf))) (.seq .leaf (.cond [0, 1, 5, 6, 7, 8, 9, 10] (.seq .leaf (.seq (.seq .leaf (.cond [8, 13] (.seq .leaf .leaf) .leaf)) (.seq .leaf .leaf))) .leaf)))))))))))) (.seq .leaf .leaf))))))))))
def sV94 : Sk := (.seq .leaf (.seq .leaf (.seq (.seq .leaf (.block [3] (.loop [3, 10, 11] (.seq .leaf (.seq (.cond [3, 10, 11] .leaf .leaf) (.seq (.block [3, 10, 11] (.seq .leaf (.seq .leaf .leaf))) .leaf)))))) (.seq .leaf .leaf))))
def sV101 : Sk := (.seq .leaf (.seq .leaf .leaf))
def sV102 : Sk := (.seq .leaf (.seq .leaf .leaf))
def sV103 : Sk := (.seq .leaf (.seq .leaf .leaf))
def sV108 : Sk := (.seq .leaf (.seq (.seq .leaf (.cond [0] (.seq .leaf .leaf) .leaf)) (.seq .leaf (.seq (.seq .leaf (.block [3] (.loop [0, 3, 9, 10] (.seq .leaf (.seq (.cond [0, 3, 9, 10] .leaf .leaf) (.seq (.block [0, 3, 9, 10] (.seq .leaf .leaf)) .leaf)))))) (.seq (.seq .leaf (.cond [3] (.seq .leaf .leaf) .leaf)) (.seq .leaf .leaf))))))
def sV114 : Sk := (.seq .leaf (.seq .leaf .leaf))
def sV132 : Sk := (.seq .leaf (.seq (.seq .leaf (.cond [0, 1] (.seq .leaf .leaf) .leaf)) (.seq .leaf .leaf)))
def sV133 : Sk := (.seq .leaf (.seq (.seq .leaf (.seq .leaf (.cond [0] (.seq .leaf .leaf) .leaf))) (.seq .leaf .leaf)))
def tabV : FT := (.node 101 ⟨2, c101⟩ (.node 60 ⟨1, c60⟩ (.node 45 ⟨2, c45⟩ (.node 20 ⟨2, c20⟩ .leaf .leaf) (.node 52 ⟨2, c52⟩ .leaf .leaf)) (.node 86 ⟨2, c86⟩ (.node 80 ⟨1, c80⟩ .leaf .leaf) (.node 94 ⟨1, c94⟩ .leaf .leaf))) (.node 114 ⟨2, c114⟩ (.node 103 ⟨2, c103⟩ (.node 102 ⟨1, c102⟩ .leaf .leaf) (.node 108 ⟨1, c108⟩ .leaf .leaf)) (.node 133 ⟨2, c133⟩ (.node 132 ⟨2, c132⟩ .leaf .leaf) .leaf)))
def GV : Cfg := cfgOf fgl tabV none_ nobody
noncomputable def QV : FP := fpOf Tryz.prog fgl tabV none_ nobody
theorem gV20 : Good Tryz.prog GV 20 ⟨2, c20⟩ := ⟨Tryz.f20, sV20, Tryz.func20, by kernel_rfl, by kernel_rfl⟩
theorem gV45 : Good Tryz.prog GV 45 ⟨2, c45⟩ := ⟨Tryz.f45, sV45, Tryz.func45, by kernel_rfl, by kernel_rfl⟩
theorem gV52 : Good Tryz.prog GV 52 ⟨2, c52⟩ := ⟨Tryz.f52, sV52, Tryz.func52, by kernel_rfl, by kernel_rfl⟩
theorem gV60 : Good Tryz.prog GV 60 ⟨1, c60⟩ := ⟨Tryz.f60, sV60, Tryz.func60, by kernel_rfl, by kernel_rfl⟩
theorem gV80 : Good Tryz.prog GV 80 ⟨1, c80⟩ := ⟨Tryz.f80, sV80, Tryz.func80, by kernel_rfl, by kernel_rfl⟩
theorem gV86 : Good Tryz.prog GV 86 ⟨2, c86⟩ := ⟨Tryz.f86, sV86, Tryz.func86, by kernel_rfl, by kernel_rfl⟩
theorem gV94 : Good Tryz.prog GV 94 ⟨1, c94⟩ := ⟨Tryz.f94, sV94, Tryz.func94, by kernel_rfl, by kernel_rfl⟩
theorem gV101 : Good Tryz.prog GV 101 ⟨2, c101⟩ := ⟨Tryz.f101, sV101, Tryz.func101, by kernel_rfl, by kernel_rfl⟩
theorem gV102 : Good Tryz.prog GV 102 ⟨1, c102⟩ := ⟨Tryz.f102, sV102, Tryz.func102, by kernel_rfl, by kernel_rfl⟩
theorem gV103 : Good Tryz.prog GV 103 ⟨2, c103⟩ := ⟨Tryz.f103, sV103, Tryz.func103, by kernel_rfl, by kernel_rfl⟩
theorem gV108 : Good Tryz.prog GV 108 ⟨1, c108⟩ := ⟨Tryz.f108, sV108, Tryz.func108, by kernel_rfl, by kernel_rfl⟩
theorem gV114 : Good Tryz.prog GV 114 ⟨2, c114⟩ := ⟨Tryz.f114, sV114, Tryz.func114, by kernel_rfl, by kernel_rfl⟩
theorem gV132 : Good Tryz.prog GV 132 ⟨2, c132⟩ := ⟨Tryz.f132, sV132, Tryz.func132, by kernel_rfl, by kernel_rfl⟩
theorem gV133 : Good Tryz.prog GV 133 ⟨2, c133⟩ := ⟨Tryz.f133, sV133, Tryz.func133, by kernel_rfl, by kernel_rfl⟩
theorem allV : tabV.All (Good Tryz.prog GV) := ⟨gV101, ⟨gV60, ⟨gV45, ⟨gV20, trivial, trivial⟩, ⟨gV52, trivial, trivial⟩⟩, ⟨gV86, ⟨gV80, trivial, trivial⟩, ⟨gV94, trivial, trivial⟩⟩⟩, ⟨gV114, ⟨gV103, ⟨gV102, trivial, trivial⟩, ⟨gV108, trivial, trivial⟩⟩, ⟨gV133, ⟨gV132, trivial, trivial⟩, trivial⟩⟩⟩
theorem hooksV : HookSound Tryz.prog GV := by
  intro f args σ e σ1 h φ w args' hr hg ha
  cases h
theorem fineV : Fine QV GV := fine_of (by kernel_rfl) (by kernel_rfl) allV hooksV

/-- The recipe: a WAV of one chunk; the chunk's cells. -/
def recV (h : Nat) : Value := .agg #[.int .i64 1, .string (bs []), .slice (some ⟨h, 0, none⟩) 1 1, .string (bs []), .slice none 0 0, .slice none 0 0, .slice none 0 0, .int .i64 0, .int .i64 0, .int .i64 0, .slice none 0 0, .slice none 0 0, .slice none 0 0, .int .i64 0, .int .i64 0, .slice none 0 0]
def chunk : List Value := [.string (bs [76, 73, 83, 84]), .string (bs [73, 78, 70, 79, 73, 78, 65, 77, 2, 0, 0, 0, 97, 0, 73, 78, 65, 77, 2, 0, 0, 0, 98, 0]), .int .i64 0]
def σB : St := (⟨8, .leaf, 0, false⟩ : St).alloc (.cells chunk 47 false)
def nm : Nat → List UInt8
  | 0 => [73, 78, 65, 77]
  | 1 => [73, 65, 82, 84]
  | 2 => [73, 80, 82, 68]
  | 3 => [73, 84, 82, 75]
  | 4 => [73, 67, 82, 68]
  | _ => [73, 71, 78, 82]
theorem v0 : (fcall QV 100 20 [recV 8, .string (bs (nm 0))] σB).map (·.1) = some (.ret (.slice (some ⟨24, 0, none⟩) 2 2)) := by kernel_rfl
theorem v0' : (fcall QV 100 20 [recV 8, .string (bs (nm 0))] σB).bind (fun r => r.2.get 24) = some (.cells [.string (bs [97]), .string (bs [98])] 9 true) := by kernel_rfl
theorem v1 : (fcall QV 100 20 [recV 8, .string (bs (nm 1))] σB).map (·.1) = some (.ret (.slice none 0 0)) := by kernel_rfl
theorem v2 : (fcall QV 100 20 [recV 8, .string (bs (nm 2))] σB).map (·.1) = some (.ret (.slice none 0 0)) := by kernel_rfl
theorem v3 : (fcall QV 100 20 [recV 8, .string (bs (nm 3))] σB).map (·.1) = some (.ret (.slice none 0 0)) := by kernel_rfl
theorem v4 : (fcall QV 100 20 [recV 8, .string (bs (nm 4))] σB).map (·.1) = some (.ret (.slice none 0 0)) := by kernel_rfl
theorem v5 : (fcall QV 100 20 [recV 8, .string (bs (nm 5))] σB).map (·.1) = some (.ret (.slice none 0 0)) := by kernel_rfl

/-! Is it that recipe? -/
def eqB : List UInt8 → List UInt8 → Bool
  | [], [] => true
  | a :: l, b :: m => Nat.beq a.toNat b.toNat && eqB l m
  | _, _ => false
theorem eqB_eq : ∀ {l m : List UInt8}, eqB l m = true → l = m
  | [], [], _ => rfl
  | [], _ :: _, h => by cases h
  | _ :: _, [], h => by cases h
  | a :: l, b :: m, h => by
    simp only [eqB, Bool.and_eq_true] at h
    rw [eqB_eq h.2, UInt8.toNat_inj.1 (Nat.eq_of_beq_eq_true h.1)]
def strIs (s : ByteArray) (l : List UInt8) : Bool := eqB s.data.toList l
theorem strIs_eq {s : ByteArray} {l : List UInt8} (h : strIs s l = true) : s = bs l := by
  have := eqB_eq h
  obtain ⟨⟨d⟩⟩ := s
  simp only at this
  subst this
  rfl
def recOf (v : Value) : Option Nat := match v with
  | .agg a => match a.toList with
    | [.int .i64 (.ofNat 1), .string s, .slice (some ⟨h, 0, none⟩) 1 1, .string t, .slice none 0 0, .slice none 0 0, .slice none 0 0, .int .i64 (.ofNat 0), .int .i64 (.ofNat 0), .int .i64 (.ofNat 0), .slice none 0 0, .slice none 0 0, .slice none 0 0, .int .i64 (.ofNat 0), .int .i64 (.ofNat 0), .slice none 0 0] =>
      if (strIs s [] && strIs t []) = true then some h else none
    | _ => none
  | _ => none
theorem recOf_eq {v : Value} {h : Nat} (e : recOf v = some h) : v = recV h := by
  unfold recOf at e
  split at e
  case h_2 => cases e
  rename_i a
  split at e
  case h_2 => cases e
  rename_i s k t hl
  split at e
  case isFalse => cases e
  rename_i hc
  rw [Bool.and_eq_true] at hc
  injection e with e
  subst e
  rw [strIs_eq hc.1, strIs_eq hc.2] at hl
  obtain ⟨l⟩ := a
  simp only at hl
  subst hl
  rfl
def chunkAt (σ : St) (h : Nat) : Bool := match σ.get h with
  | some (.cells [.string s, .string t, .int .i64 (.ofNat 0)] 47 _) => strIs s [76, 73, 83, 84] && strIs t [73, 78, 70, 79, 73, 78, 65, 77, 2, 0, 0, 0, 97, 0, 73, 78, 65, 77, 2, 0, 0, 0, 98, 0]
  | _ => false
theorem chunkAt_eq {σ : St} {h : Nat} (e : chunkAt σ h = true) : ∃ wr, σ.get h = some (.cells chunk 47 wr) := by
  unfold chunkAt at e
  split at e
  case h_2 => cases e
  rename_i s t wr hg
  rw [Bool.and_eq_true] at e
  rw [strIs_eq e.1, strIs_eq e.2] at hg
  exact ⟨wr, hg⟩

section
variable {φ : PMap} {σ : St} {w : World} {h : Nat}
def phB (φ : PMap) (h : Nat) : PMap := ⟨fun k => if k = 8 then φ.at_ h else ⟨k, 0, none⟩, fun k => if k = 8 then φ.room h else 0, fun k => if k = 8 then φ.sz h else 0⟩
theorem get_B (k : Nat) : σB.get k = if k = 8 then some (.cells chunk 47 false) else if k < 8 then some .dead else none := by
  unfold σB
  rw [St.get_alloc]
  show (if k = 8 then _ else _) = _
  split
  · rfl
  · show (if k < 8 then _ else _) = _
    split <;> rfl
theorem own_B (k : Nat) (o : AObj) (hk : σB.get k = some o) : own o = false := by
  rw [get_B] at hk
  split at hk
  · injection hk with hk; subst hk; rfl
  · split at hk
    · injection hk with hk; subst hk; rfl
    · cases hk
theorem rh_B (hr : RH Tryz.prog φ σ w) (hc : chunkAt σ h = true) : RH Tryz.prog (phB φ h) σB w := by
  obtain ⟨wr, hg⟩ := chunkAt_eq hc
  constructor
  · intro k o hk
    rw [get_B] at hk
    split at hk
    · rename_i e
      subst e
      injection hk with hk
      subst hk
      obtain ⟨⟨h1, h2⟩, cs', t', fr, h3, h4, h5, h6⟩ := hr.objs h _ hg
      refine ⟨⟨h1, h2⟩, cs', t', fr, h3, fun i v hv => ?_, h5, fun e => by cases e⟩
      obtain ⟨v', g1, g2⟩ := h4 i v hv
      have hcl : cleanV v = true := List.all_eq_true.1 (show chunk.all cleanV = true from rfl) v (List.mem_of_getElem? hv)
      refine ⟨v', g1, ?_⟩
      rw [rv_clean_eq hcl g2]
      exact rv_clean hcl _ _
    · split at hk
      · injection hk with hk; subst hk; trivial
      · cases hk
  · intro j k o o' hj _ ho
    rw [own_B j o hj] at ho
    cases ho
theorem gl_B {G : Cfg} (e : G.gl = fgl) : GL G (phB φ h) σB := by
  intro g k hk
  rw [e] at hk
  unfold fgl at hk
  split at hk
  · rename_i hb
    injection hk with hk
    subst hk
    have hb' : g + 1 ≤ 8 := by simpa [Nat.blt] using hb
    exact ⟨by show g < 9; omega, by simp only [phB]; rw [if_neg (by omega)]⟩
  · cases hk
theorem rv_B {v' : Value} (hv : RV φ σ.n (recV h) v') : RV (phB φ h) σB.n (recV 8) v' := by
  cases hv with
  | @agg a a' ha =>
  obtain ⟨l⟩ := a'
  refine .agg ?_
  cases ha with
  | cons x0 ha =>
  cases ha with
  | cons x1 ha =>
  cases ha with
  | cons x2 ha =>
  cases ha with
  | cons x3 ha =>
  cases ha with
  | cons x4 ha =>
  cases ha with
  | cons x5 ha =>
  cases ha with
  | cons x6 ha =>
  cases ha with
  | cons x7 ha =>
  cases ha with
  | cons x8 ha =>
  cases ha with
  | cons x9 ha =>
  cases ha with
  | cons x10 ha =>
  cases ha with
  | cons x11 ha =>
  cases ha with
  | cons x12 ha =>
  cases ha with
  | cons x13 ha =>
  cases ha with
  | cons x14 ha =>
  cases ha with
  | cons x15 ha =>
  cases ha
  cases x0
  cases x1
  cases x3
  cases x4
  cases x5
  cases x6
  cases x7
  cases x8
  cases x9
  cases x10
  cases x11
  cases x12
  cases x13
  cases x14
  cases x15
  cases x2 with
  | slice _ _ o' _ _ c' g1 g2 g3 g4 g5 g6 =>
  have hs : RV (phB φ h) σB.n (.slice (some ⟨8, 0, none⟩) 1 1) (.slice (some ⟨(φ.at_ h).block, o', none⟩) 1 c') := .slice 8 0 o' 1 1 c' (by show 8 < 9; omega) g2 g3 g4 g5 g6
  exact .cons (.int _ _) (.cons (.string _) (.cons hs (.cons (.string _) (.cons .nilSlice (.cons .nilSlice (.cons .nilSlice (.cons (.int _ _) (.cons (.int _ _) (.cons (.int _ _) (.cons .nilSlice (.cons .nilSlice (.cons .nilSlice (.cons (.int _ _) (.cons (.int _ _) (.cons .nilSlice .nil)))))))))))))))
end

/-- values, for the names of a WAV. -/
def hk20 (args : List Value) (σ : St) : AOut := match args with
  | [v, .string s] => match recOf v with
    | some h => if chunkAt σ h then
        if strIs s (nm 0) then some (.ret (.slice (some ⟨σ.n, 0, none⟩) 2 2), σ.alloc (.cells [.string (bs [97]), .string (bs [98])] 9 false)) else
        if strIs s (nm 1) || (strIs s (nm 2) || (strIs s (nm 3) || (strIs s (nm 4) || strIs s (nm 5)))) then some (.ret (.slice none 0 0), σ) else none
      else none
    | none => none
  | _ => none
theorem nil20 {φ : PMap} {σ : St} {w : World} {h : Nat} {l : List UInt8} (e : (fcall QV 100 20 [recV 8, .string (bs l)] σB).map (·.1) = some (.ret (.slice none 0 0))) {v' : Value} (hr : RH Tryz.prog φ σ w) (hc : chunkAt σ h = true) (hv : RV φ σ.n (recV h) v') :
    Calls Tryz.prog 20 #[v', .string (bs l)] w (ERel Tryz.prog φ σ w (.ret (.slice none 0 0)) σ) := by
  rw [Option.map_eq_some_iff] at e
  obtain ⟨⟨r, σ1⟩, h1, h2⟩ := e
  simp only at h2
  subst h2
  refine hook_below hr .nilSlice ((top_sound fineV (call_iff.2 ⟨100, h1⟩) (rh_B hr hc) (gl_B rfl) (args' := #[v', .string (bs l)]) (.cons (rv_B hv) (.cons (.string _) .nil)) own_B).mono fun E w1 hE => ?_)
  obtain ⟨x, φ1, h3, h4, _, h6⟩ := hE
  cases h4
  exact ⟨h3, h6⟩
theorem hk20_sound : HS 20 hk20 := by
  intro args σ e σ1 h φ w args' hr ha
  obtain ⟨l⟩ := args'
  unfold hk20 at h
  split at h
  case h_2 => cases h
  rename_i v s
  split at h
  case h_2 => cases h
  rename_i hd hrec
  obtain rfl := recOf_eq hrec
  split at h
  case isFalse => cases h
  rename_i hc
  cases ha with
  | cons hx ha =>
  cases ha with
  | cons hy ha =>
  cases ha
  cases hy
  split at h
  · rename_i hs
    obtain rfl := strIs_eq hs
    injection h with h
    injection h with h2 h3
    subst h2 h3
    have e0 := v0
    have e1 := v0'
    rw [Option.map_eq_some_iff] at e0
    obtain ⟨⟨r, σ1⟩, h1, h2⟩ := e0
    simp only at h2
    subst h2
    rw [h1] at e1
    simp only [Option.bind_some] at e1
    refine (callW_sound fineV 20 _ σB _ σ1 (call_iff.2 ⟨100, h1⟩) (phB φ hd) w _ (rh_B hr hc) (gl_B rfl) (.cons (rv_B hx) (.cons (.string _) .nil))).mono fun E w1 hE => ?_
    obtain ⟨φ1, hf, hr1, hv⟩ := hE
    cases E with
    | returned v' =>
      obtain ⟨q1, q2, q3⟩ := hr.lend hf own_B hr1 (by show 9 ≤ 24; omega) e1 rfl
      exact ⟨_, q1, q2, q3 _ _ _ _ hv⟩
    | panicked c => exact hv.elim
    | outgrown => exact hv.elim
  · split at h
    case isFalse => cases h
    rename_i hs
    injection h with h
    injection h with h2 h3
    subst h2 h3
    simp only [Bool.or_eq_true] at hs
    rcases hs with hs | hs | hs | hs | hs <;> obtain rfl := strIs_eq hs
    · exact nil20 v1 hr hc hx
    · exact nil20 v2 hr hc hx
    · exact nil20 v3 hr hc hx
    · exact nil20 v4 hr hc hx
    · exact nil20 v5 hr hc hx
end Go.AM.Fld

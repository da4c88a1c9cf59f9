/- A part of the proof that FieldsSame, called with any two lists of tags (the laid tables as the text lays them), returns true and leaves its arguments as they were. Here: fields.Read in the awakening, its parts. -/
import Derived.Test.YticpmageknpcmaaGreatDoorProg
import Derived.Test.YticpmageknpcmaaGreatDoorAmF
import Derived.Test.YticpmageknpcmaaGreatDoorVa
import Derived.KernelRfl
set_option linter.unusedVariables false
set_option linter.unusedSimpArgs false
set_option maxRecDepth 100000
namespace Go.AM.Fld
open Go Go.AM Go.Proofs

/-! fields.Read of the one recipe that the awakening reads: a range over a map, whatever its order. -/
def hookR (f : FuncId) (args : List Value) (σ : St) : AOut := hk20 args σ
abbrev hookedR (f : FuncId) : Bool := Nat.beq f 20
def sR11 : Sk := (.seq .leaf (.seq .leaf .leaf))
def sR13 : Sk := (.seq .leaf (.seq .leaf .leaf))
def sR15 : Sk := (.seq .leaf (.seq .leaf (.seq (.seq .leaf (.block [3] (.seq .leaf (.cond [3] .leaf (.seq .leaf (.cond [3] .leaf (.seq .leaf (.cond [3] .leaf .leaf)))))))) (.seq .leaf (.seq (.seq .leaf (.block [4] (.loop [3, 4, 19, 20, 21] (.seq .leaf (.seq (.cond [3, 4, 19, 20, 21] .leaf .leaf) (.seq (.block [3, 4, 19, 20, 21] (.seq .leaf .leaf)) .leaf)))))) (.seq .leaf .leaf))))))
def sR22 : Sk := (.seq .leaf (.seq (.block [] (.loop [0] (.seq (.seq .leaf (.cond [0] .leaf .leaf)) (.block [0] (.seq .leaf (.seq (.seq .leaf (.cond [0, 3] (.seq .leaf (.seq (.seq .leaf (.cond [0] (.seq .leaf (.seq .leaf (.cond [0] (.seq .leaf (.block [0] (.loop [0] (.seq (.seq .leaf (.cond [0] .leaf .leaf)) (.block [0] .leaf))))) .leaf))) .leaf)) .leaf)) .leaf)) (.seq .leaf (.seq .leaf (.seq .leaf (.seq .leaf (.block [0] (.seq .leaf (.cond [0] (.seq (.seq .leaf (.cond [0] (.seq .leaf .leaf) .leaf)) .leaf) (.seq .leaf (.cond [0] (.seq (.seq .leaf (.cond [0] (.seq .leaf .leaf) .leaf)) .leaf) (.seq .leaf (.cond [0] (.seq (.seq .leaf (.cond [0] (.seq .leaf .leaf) .leaf)) .leaf) (.seq .leaf .leaf)))))))))))))))))) (.seq .leaf .leaf)))
def sR23 : Sk := (.seq .leaf (.seq .leaf .leaf))
def sR50 : Sk := (.seq .leaf (.seq .leaf .leaf))
def sR86 : Sk := (.seq .leaf (.seq .leaf (.seq (.block [0, 1, 5] (.seq .leaf (.cond [0, 1, 5] (.seq .leaf .leaf) (.seq .leaf (.cond [0, 1, 5] (.seq .leaf .leaf) (.seq .leaf (.cond [0, 1, 5] (.seq .leaf .leaf) (.seq .leaf (.cond [0, 1, 5] (.seq .leaf .leaf) .leaf))))))))) (.seq .leaf (.seq .leaf (.seq .leaf (.seq .leaf (.seq .leaf (.seq (.block [] (.loop [0, 1, 5, 6, 7, 8, 9, 10] (.seq (.seq .leaf (.cond [0, 1, 5, 6, 7, 8, 9, 10] .leaf .leaf)) (.block [0, 1, 5, 6, 7, 8, 9, 10] (.seq (.seq .leaf (.cond [0, 1, 5, 6, 7, 8, 9, 10] (.seq .leaf (.seq (.seq .leaf (.cond [0, 1, 5, 6, 7, 8, 9, 10, 11] (.seq .leaf .leaf) .leaf)) .leaf)) .leaf)) (.seq (.seq .leaf (.cond [0, 1, 5, 6, 7, 8, 9, 10] (.seq .leaf .leaf) .leaf)) (.seq .leaf (.seq .leaf (.seq .leaf (.cond [0, 1, 5, 6, 7, 8, 9, 10] (.seq .leaf (.seq (.seq .leaf (.cond [] (.seq .leaf .leaf) .leaf)) (.seq .leaf .leaf))) (.seq .leaf (.cond [0, 1, 5, 6, 7, 8, 9, 10] (.seq .leaf (.seq (.seq .leaf (.cond [8, 13] (.seq .leaf .leaf) .leaf)) (.seq .leaf .leaf))) .leaf)))))))))))) (.seq .leaf .leaf))))))))))
def sR114 : Sk := (.seq .leaf (.seq .leaf .leaf))
def tabR : FT := (.node 23 ⟨2, c23⟩ (.node 15 ⟨1, c15⟩ (.node 13 ⟨1, c13⟩ (.node 11 ⟨0, c11⟩ .leaf .leaf) .leaf) (.node 22 ⟨1, c22⟩ .leaf .leaf)) (.node 86 ⟨2, c86⟩ (.node 50 ⟨2, c50⟩ .leaf .leaf) (.node 114 ⟨2, c114⟩ .leaf .leaf)))
def GR : Cfg := cfgOf fgl tabR hookedR hookR
noncomputable def QR : FP := fpOf Tryz.prog fgl tabR hookedR hookR
theorem gR11 : Good Tryz.prog GR 11 ⟨0, c11⟩ := ⟨Tryz.f11, sR11, Tryz.func11, by kernel_rfl, by kernel_rfl⟩
theorem gR13 : Good Tryz.prog GR 13 ⟨1, c13⟩ := ⟨Tryz.f13, sR13, Tryz.func13, by kernel_rfl, by kernel_rfl⟩
theorem gR15 : Good Tryz.prog GR 15 ⟨1, c15⟩ := ⟨Tryz.f15, sR15, Tryz.func15, by kernel_rfl, by kernel_rfl⟩
theorem gR22 : Good Tryz.prog GR 22 ⟨1, c22⟩ := ⟨Tryz.f22, sR22, Tryz.func22, by kernel_rfl, by kernel_rfl⟩
theorem gR23 : Good Tryz.prog GR 23 ⟨2, c23⟩ := ⟨Tryz.f23, sR23, Tryz.func23, by kernel_rfl, by kernel_rfl⟩
theorem gR50 : Good Tryz.prog GR 50 ⟨2, c50⟩ := ⟨Tryz.f50, sR50, Tryz.func50, by kernel_rfl, by kernel_rfl⟩
theorem gR86 : Good Tryz.prog GR 86 ⟨2, c86⟩ := ⟨Tryz.f86, sR86, Tryz.func86, by kernel_rfl, by kernel_rfl⟩
theorem gR114 : Good Tryz.prog GR 114 ⟨2, c114⟩ := ⟨Tryz.f114, sR114, Tryz.func114, by kernel_rfl, by kernel_rfl⟩
theorem allR : tabR.All (Good Tryz.prog GR) := ⟨gR23, ⟨gR15, ⟨gR13, ⟨gR11, trivial, trivial⟩, trivial⟩, ⟨gR22, trivial, trivial⟩⟩, ⟨gR86, ⟨gR50, trivial, trivial⟩, ⟨gR114, trivial, trivial⟩⟩⟩
theorem hooksR : HookSound Tryz.prog GR := by
  intro f args σ e σ1 h φ w args' hr hg ha
  simp only at h
  split at h
  case isFalse => cases h
  rename_i hh
  obtain rfl : f = 20 := Nat.eq_of_beq_eq_true hh
  exact hk20_sound args σ e σ1 h φ w args' hr ha
theorem fineR : Fine QR GR := fine_of (by kernel_rfl) (by kernel_rfl) allR hooksR
noncomputable def callR : ACall := fcall QR 100
theorem soundR : Sound Tryz.prog GR callR := fun f args σ e σ1 h => acall_sound fineR.names fineR.draw fineR.hooks fineR.codes 100 f args σ e σ1 (fcall_sound fineR.low 100 f args σ (e, σ1) h)

/-! Its parts. -/
def fstC : Code → Code
  | .seq x _ => x
  | c => c
def sndC : Code → Code
  | .seq _ x => x
  | c => c
def inC : Code → Code
  | .block _ x => x
  | .loop x => x
  | c => c
def opsC : Code → Array Oper
  | .region _ ops _ => ops
  | _ => #[]
noncomputable def rd : Code := Tryz.f10.body.getD .skip
noncomputable def cA : Code := fstC rd
noncomputable def cB : Code := fstC (sndC rd)
noncomputable def cC : Code := fstC (sndC (sndC rd))
noncomputable def cD : Code := fstC (fstC (sndC (sndC (sndC rd))))
noncomputable def cL : Code := inC (inC (sndC (fstC (sndC (sndC (sndC rd))))))
noncomputable def cE : Code := sndC (sndC (sndC (sndC rd)))
noncomputable def cN4 : Code := fstC cL
noncomputable def cIf : Code := fstC (sndC cL)
noncomputable def cN5 : Code := fstC (inC (sndC (sndC cL)))
noncomputable def cR : Code := sndC (inC (sndC (sndC cL)))
theorem rd_eq : rd = .seq cA (.seq cB (.seq cC (.seq (.seq cD (.block 0 (.loop cL))) cE))) := by kernel_rfl
theorem cL_eq : cL = .seq cN4 (.seq cIf (.block 1 (.seq cN5 cR))) := by kernel_rfl
theorem cD_eq : cD = .region 3 (opsC cD) false := by kernel_rfl
theorem c4_eq : cN4 = .region 4 (opsC cN4) false := by kernel_rfl
theorem c5_eq : cN5 = .region 5 (opsC cN5) false := by kernel_rfl
def op (ops : Array Oper) (i : Nat) : Oper := ops.toList.getD i { dst := none, op := .move (.tmp 0), type := 0, pos := "", after := #[], guard := none }
theorem opsD : (opsC cD).toList = [op (opsC cD) 0, op (opsC cD) 1] := by kernel_rfl
theorem ops4 : (opsC cN4).toList = op (opsC cN4) 0 :: (opsC cN4).toList.tail := by kernel_rfl
theorem ops5 : (opsC cN5).toList = op (opsC cN5) 0 :: (opsC cN5).toList.tail := by kernel_rfl

/-! What it does. -/
def envOf : ARes → List Value
  | some (_, e, _) => e
  | none => []
def stOf : ARes → St
  | some (_, _, σ) => σ
  | none => σB
def e0 : List Value := recV 8 :: List.replicate 56 undef
noncomputable def rA : ARes := aexec Tryz.prog GR 100 callR cA e0 σB
noncomputable def rB : ARes := aexec Tryz.prog GR 100 callR cB (envOf rA) (stOf rA)
noncomputable def rC : ARes := aexec Tryz.prog GR 100 callR cC (envOf rB) (stOf rB)
theorem hA : rA = some (.normal, envOf rA, stOf rA) := by kernel_rfl
theorem hB : rB = some (.normal, envOf rB, stOf rB) := by kernel_rfl
theorem hC : rC = some (.normal, envOf rC, stOf rC) := by kernel_rfl
def TITLE : List UInt8 := [84, 73, 84, 76, 69]
def es6 : Array MapEntry := #[⟨.string (bs TITLE), .string (bs (nm 0)), 0⟩, ⟨.string (bs [65, 82, 84, 73, 83, 84]), .string (bs (nm 1)), 1⟩, ⟨.string (bs [65, 76, 66, 85, 77]), .string (bs (nm 2)), 2⟩,
  ⟨.string (bs [84, 82, 65, 67, 75, 78, 85, 77, 66, 69, 82]), .string (bs (nm 3)), 3⟩, ⟨.string (bs [68, 65, 84, 69]), .string (bs (nm 4)), 4⟩, ⟨.string (bs [71, 69, 78, 82, 69]), .string (bs (nm 5)), 5⟩]
theorem n_C : (stOf rC).n = 14 := by kernel_rfl
theorem e3_C : (envOf rC).getD 3 undef = .map (some 11) := by kernel_rfl
theorem m_C : (stOf rC).get 11 = some (.map es6 6) := by kernel_rfl
def envJ (g : Nat → Value) : List Value := (List.range 57).map fun i => bif Nat.beq i 1 then .pointer (some ⟨9, 0, none⟩) else bif Nat.beq i 4 then .map (some 13) else bif Nat.beq i 17 then .pointer (some ⟨14, 0, none⟩) else g i
def isPtr (h : Nat) : Option Value → Bool
  | some (.pointer (some ⟨k, 0, none⟩)) => Nat.beq k h
  | _ => false
def isMap (h : Nat) : Option Value → Bool
  | some (.map (some k)) => Nat.beq k h
  | _ => false
def isJ (e : List Value) : Bool := Nat.beq e.length 57 && (isPtr 9 e[1]? && (isMap 13 e[4]? && isPtr 14 e[17]?))
theorem isPtr_eq {h : Nat} {v : Option Value} (e : isPtr h v = true) : v = some (.pointer (some ⟨h, 0, none⟩)) := by
  unfold isPtr at e
  split at e
  · rw [Nat.eq_of_beq_eq_true e]
  · cases e
theorem isMap_eq {h : Nat} {v : Option Value} (e : isMap h v = true) : v = some (.map (some h)) := by
  unfold isMap at e
  split at e
  · rw [Nat.eq_of_beq_eq_true e]
  · cases e
theorem isJ_eq {e : List Value} (h : isJ e = true) : e = envJ fun i => e.getD i undef := by
  simp only [isJ, Bool.and_eq_true] at h
  obtain ⟨h1, h2, h3, h4⟩ := h
  have h1 := Nat.eq_of_beq_eq_true h1
  have h2 := isPtr_eq h2
  have h3 := isMap_eq h3
  have h4 := isPtr_eq h4
  apply List.ext_getElem?
  intro i
  by_cases hi : i < 57
  · simp only [envJ, List.getElem?_map, List.getElem?_range hi, Option.map_some]
    by_cases e1 : i = 1
    · subst e1; rw [h2]; rfl
    by_cases e4 : i = 4
    · subst e4; rw [h3]; rfl
    by_cases e17 : i = 17
    · subst e17; rw [h4]; rfl
    have f1 : Nat.beq i 1 = false := by
      cases h : Nat.beq i 1
      · rfl
      · exact absurd (Nat.eq_of_beq_eq_true h) e1
    have f4 : Nat.beq i 4 = false := by
      cases h : Nat.beq i 4
      · rfl
      · exact absurd (Nat.eq_of_beq_eq_true h) e4
    have f17 : Nat.beq i 17 = false := by
      cases h : Nat.beq i 17
      · rfl
      · exact absurd (Nat.eq_of_beq_eq_true h) e17
    rw [f1, f4, f17]
    simp only [cond_false, List.getD_eq_getElem?_getD]
    rw [List.getElem?_eq_getElem (by omega)]
    rfl
  · rw [List.getElem?_eq_none (by omega), List.getElem?_eq_none (by simp [envJ]; omega)]
def eD : List Value := []
noncomputable def envD : List Value := ((envOf rC).set 16 (.map (some 11))).set 17 (.pointer (some ⟨14, 0, none⟩))
theorem j_D : isJ envD = true := by kernel_rfl
def envN (g : Nat → Value) (v : Value) : List Value := (envJ g).set 18 v
def envT (g : Nat → Value) (v : Value) (b : Bool) : List Value := (envN g v).set 19 (.bool b)
def env5 (g : Nat → Value) (k v : Value) : List Value := (envT g (.tuple #[.bool true, k, v]) true).set 20 (.tuple #[k, v])
def env6 (g : Nat → Value) (k v : Value) : List Value := ((((env5 g k v).set 21 k).set 22 v).set 5 k).set 6 v
theorem tail4 (g : Nat → Value) (k v : Value) (σ : St) : aops Tryz.prog GR callR (opsC cN4) (opsC cN4).toList.tail (envN g (.tuple #[.bool true, k, v])) σ = some (.normal, envT g (.tuple #[.bool true, k, v]) true, σ) := by kernel_rfl
theorem tail4' (g : Nat → Value) (σ : St) : aops Tryz.prog GR callR (opsC cN4) (opsC cN4).toList.tail (envN g (.tuple #[.bool false])) σ = some (.normal, envT g (.tuple #[.bool false]) false, σ) := by kernel_rfl
theorem if4 (g : Nat → Value) (k v : Value) (σ : St) : aexec Tryz.prog GR 100 callR cIf (envT g (.tuple #[.bool true, k, v]) true) σ = some (.normal, envT g (.tuple #[.bool true, k, v]) true, σ) := by kernel_rfl
theorem if4' (g : Nat → Value) (σ : St) : aexec Tryz.prog GR 100 callR cIf (envT g (.tuple #[.bool false]) false) σ = some (.exit 0, envT g (.tuple #[.bool false]) false, σ) := by kernel_rfl
theorem tail5 (g : Nat → Value) (k v : Value) (σ : St) : aops Tryz.prog GR callR (opsC cN5) (opsC cN5).toList.tail (env5 g k v) σ = some (.normal, env6 g k v, σ) := by kernel_rfl

/-- The heap in the loop: before and behind the title's round. -/
noncomputable def st0 : St := (stOf rC).alloc .dead
noncomputable def st1 : St := stOf (aexec Tryz.prog GR 100 callR cR (env6 (fun _ => undef) (.string (bs TITLE)) (.string (bs (nm 0)))) st0)
noncomputable def stJ (b : Bool) : St := bif b then st1 else st0
def chk (r : ARes) : Option (AExit × Bool × St) := r.map fun r => (r.1, isJ r.2.1, r.2.2)
theorem b0 (g : Nat → Value) : chk (aexec Tryz.prog GR 100 callR cR (env6 g (.string (bs TITLE)) (.string (bs (nm 0)))) st0) = some (.normal, true, st1) := by kernel_rfl
theorem b1_0 (g : Nat → Value) : chk (aexec Tryz.prog GR 100 callR cR (env6 g (.string (bs [65, 82, 84, 73, 83, 84])) (.string (bs (nm 1)))) st0) = some (.normal, true, st0) := by kernel_rfl
theorem b1_1 (g : Nat → Value) : chk (aexec Tryz.prog GR 100 callR cR (env6 g (.string (bs [65, 82, 84, 73, 83, 84])) (.string (bs (nm 1)))) st1) = some (.normal, true, st1) := by kernel_rfl
theorem b2_0 (g : Nat → Value) : chk (aexec Tryz.prog GR 100 callR cR (env6 g (.string (bs [65, 76, 66, 85, 77])) (.string (bs (nm 2)))) st0) = some (.normal, true, st0) := by kernel_rfl
theorem b2_1 (g : Nat → Value) : chk (aexec Tryz.prog GR 100 callR cR (env6 g (.string (bs [65, 76, 66, 85, 77])) (.string (bs (nm 2)))) st1) = some (.normal, true, st1) := by kernel_rfl
theorem b3_0 (g : Nat → Value) : chk (aexec Tryz.prog GR 100 callR cR (env6 g (.string (bs [84, 82, 65, 67, 75, 78, 85, 77, 66, 69, 82])) (.string (bs (nm 3)))) st0) = some (.normal, true, st0) := by kernel_rfl
theorem b3_1 (g : Nat → Value) : chk (aexec Tryz.prog GR 100 callR cR (env6 g (.string (bs [84, 82, 65, 67, 75, 78, 85, 77, 66, 69, 82])) (.string (bs (nm 3)))) st1) = some (.normal, true, st1) := by kernel_rfl
theorem b4_0 (g : Nat → Value) : chk (aexec Tryz.prog GR 100 callR cR (env6 g (.string (bs [68, 65, 84, 69])) (.string (bs (nm 4)))) st0) = some (.normal, true, st0) := by kernel_rfl
theorem b4_1 (g : Nat → Value) : chk (aexec Tryz.prog GR 100 callR cR (env6 g (.string (bs [68, 65, 84, 69])) (.string (bs (nm 4)))) st1) = some (.normal, true, st1) := by kernel_rfl
theorem b5_0 (g : Nat → Value) : chk (aexec Tryz.prog GR 100 callR cR (env6 g (.string (bs [71, 69, 78, 82, 69])) (.string (bs (nm 5)))) st0) = some (.normal, true, st0) := by kernel_rfl
theorem b5_1 (g : Nat → Value) : chk (aexec Tryz.prog GR 100 callR cR (env6 g (.string (bs [71, 69, 78, 82, 69])) (.string (bs (nm 5)))) st1) = some (.normal, true, st1) := by kernel_rfl
theorem m_J (b : Bool) : (stJ b).get 11 = some (.map es6 6) := by cases b <;> kernel_rfl
theorem n_J (b : Bool) : 15 ≤ (stJ b).n := by cases b <;> (exact Nat.le_of_ble_eq_true (by kernel_rfl))
def rows : List Value := [.string (bs TITLE), .string (bs [97]), .string (bs TITLE), .string (bs [98])]
theorem fin (g : Nat → Value) : (aexec Tryz.prog GR 100 callR cE (envT g (.tuple #[.bool false]) false) st1).map (fun r => (r.1, r.2.1.getD 2 undef, r.2.2.get 21)) = some (.ret, .slice (some ⟨21, 0, none⟩) 2 2, some (.cells rows 26 true)) := by kernel_rfl
end Go.AM.Fld

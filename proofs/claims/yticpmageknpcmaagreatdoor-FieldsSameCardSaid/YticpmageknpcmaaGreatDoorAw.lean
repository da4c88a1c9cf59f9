/- A part of the proof that FieldsSame, called with any two lists of tags (the laid tables as the text lays them), returns true and leaves its arguments as they were. Here: the awakening. -/
import Derived.Test.YticpmageknpcmaaGreatDoorProg
import Derived.Test.YticpmageknpcmaaGreatDoorRw
import Derived.Test.YticpmageknpcmaaGreatDoorLa
import Derived.KernelRfl
set_option linter.unusedVariables false
set_option linter.unusedSimpArgs false
set_option maxRecDepth 100000
namespace Go.AM.Fld
open Go Go.AM Go.Proofs

/-! The awakening, run by the kernel. -/
def hk10 (args : List Value) (σ : St) : AOut := match args with
  | [v] => match recOf v with
    | some h => if chunkAt σ h then some (.ret (.slice (some ⟨σ.n, 0, none⟩) 2 2), σ.alloc (.cells rows 26 false)) else none
    | none => none
  | _ => none
theorem hk10_sound : HS 10 hk10 := by
  intro args σ e σ1 h φ w args' hr ha
  obtain ⟨l⟩ := args'
  unfold hk10 at h
  split at h
  case h_2 => cases h
  rename_i v
  split at h
  case h_2 => cases h
  rename_i hd hrec
  obtain rfl := recOf_eq hrec
  split at h
  case isFalse => cases h
  rename_i hc
  cases ha with
  | cons hx ha =>
  cases ha
  injection h with h
  injection h with h2 h3
  subst h2 h3
  refine (read_run (rh_B hr hc) (gl_B rfl) (.cons (rv_B hx) .nil)).mono fun E w1 hE => ?_
  obtain ⟨v', φ1, σ1, rfl, hf, hr1, hg, hv⟩ := hE
  obtain ⟨q1, q2, q3⟩ := hr.lend hf own_B hr1 (by show 9 ≤ 21; omega) hg rfl
  exact ⟨_, q1, q2, q3 _ _ _ _ hv⟩
def hookW (f : FuncId) (args : List Value) (σ : St) : AOut := bif Nat.beq f 91 then hkCopy args σ else bif Nat.beq f 65 then hkJoin args σ else bif Nat.beq f 98 then hkLower args σ else bif Nat.beq f 69 then hkRepeat args σ else hk10 args σ
abbrev hookedW (f : FuncId) : Bool := Nat.beq f 91 || (Nat.beq f 65 || (Nat.beq f 98 || (Nat.beq f 69 || Nat.beq f 10)))
def sW4 : Sk := (.seq .leaf (.seq .leaf .leaf))
def sW6 : Sk := (.seq .leaf (.seq .leaf (.seq .leaf (.seq .leaf (.seq .leaf (.seq .leaf .leaf))))))
def sW7 : Sk := (.seq .leaf (.seq (.seq .leaf (.cond [0, 1] (.seq .leaf .leaf) .leaf)) (.seq (.seq .leaf (.block [] (.loop [0, 1, 12, 13] (.seq .leaf (.seq (.cond [0, 1, 12, 13] .leaf .leaf) (.seq (.block [0, 1, 12, 13] (.seq .leaf (.seq .leaf (.cond [0, 1, 12, 13] (.seq .leaf .leaf) .leaf)))) .leaf)))))) (.seq .leaf .leaf))))
def sW9 : Sk := (.seq .leaf (.seq (.seq .leaf (.block [1, 2, 4] (.loop [1, 2, 4, 11, 12, 13] (.seq .leaf (.seq (.cond [1, 2, 4, 11, 12, 13] .leaf .leaf) (.seq (.block [1, 2, 4, 11, 12, 13] (.seq .leaf (.seq .leaf (.cond [1, 2, 4, 11, 12, 13] (.seq .leaf .leaf) .leaf)))) .leaf)))))) (.seq (.seq .leaf (.cond [1, 2, 4] (.seq .leaf .leaf) .leaf)) (.seq (.seq .leaf (.cond [1, 2, 4] (.seq .leaf .leaf) .leaf)) (.seq .leaf (.seq .leaf (.seq .leaf (.seq (.seq .leaf (.block [4, 9, 10] (.seq .leaf (.cond [4, 9, 10] .leaf (.seq .leaf (.cond [4, 9, 10] .leaf (.seq .leaf (.cond [4, 9, 10] .leaf .leaf)))))))) (.seq (.seq .leaf (.cond [4, 9] (.seq .leaf .leaf) .leaf)) (.seq .leaf .leaf))))))))))
def sW11 : Sk := (.seq .leaf (.seq .leaf .leaf))
def sW12 : Sk := (.seq .leaf (.seq .leaf .leaf))
def sW13 : Sk := (.seq .leaf (.seq .leaf .leaf))
def sW14 : Sk := (.seq .leaf (.seq (.seq .leaf (.block [1] (.seq .leaf (.cond [1] (.seq .leaf .leaf) (.seq .leaf (.cond [1] (.seq .leaf .leaf) (.seq (.seq .leaf (.cond [1, 18] .leaf .leaf)) (.cond [1] (.seq .leaf .leaf) .leaf)))))))) (.seq .leaf (.seq .leaf .leaf))))
def sW15 : Sk := (.seq .leaf (.seq .leaf (.seq (.seq .leaf (.block [3] (.seq .leaf (.cond [3] .leaf (.seq .leaf (.cond [3] .leaf (.seq .leaf (.cond [3] .leaf .leaf)))))))) (.seq .leaf (.seq (.seq .leaf (.block [4] (.loop [3, 4, 19, 20, 21] (.seq .leaf (.seq (.cond [3, 4, 19, 20, 21] .leaf .leaf) (.seq (.block [3, 4, 19, 20, 21] (.seq .leaf .leaf)) .leaf)))))) (.seq .leaf .leaf))))))
def sW16 : Sk := (.seq .leaf (.seq .leaf (.seq (.seq .leaf (.block [3, 6, 8] (.loop [2, 3, 6, 8, 13, 14, 15] (.seq .leaf (.seq (.cond [2, 3, 6, 8, 13, 14, 15] .leaf .leaf) (.seq (.block [2, 3, 6, 8, 13, 14, 15] (.seq .leaf .leaf)) .leaf)))))) (.seq .leaf (.seq .leaf (.seq .leaf .leaf))))))
def sW18 : Sk := (.seq .leaf (.seq .leaf (.seq (.seq .leaf (.block [3, 6, 8] (.loop [1, 2, 3, 6, 8, 14, 15, 16] (.seq .leaf (.seq (.cond [1, 2, 3, 6, 8, 14, 15, 16] .leaf .leaf) (.seq (.block [1, 2, 3, 6, 8, 14, 15, 16] (.seq .leaf (.seq .leaf (.seq .leaf (.cond [1, 2, 3, 6, 8, 14, 15, 16] .leaf .leaf))))) .leaf)))))) (.seq .leaf (.seq .leaf (.seq .leaf .leaf))))))
def sW21 : Sk := (.seq .leaf (.seq (.seq .leaf (.block [] (.loop [0, 1, 7, 8] (.seq .leaf (.seq (.cond [0, 1, 7, 8] .leaf .leaf) (.seq (.block [0, 1, 7, 8] (.seq .leaf (.seq .leaf (.cond [0, 1, 7, 8] (.seq .leaf .leaf) .leaf)))) .leaf)))))) (.seq .leaf .leaf)))
def sW22 : Sk := (.seq .leaf (.seq (.block [] (.loop [0] (.seq (.seq .leaf (.cond [0] .leaf .leaf)) (.block [0] (.seq .leaf (.seq (.seq .leaf (.cond [0, 3] (.seq .leaf (.seq (.seq .leaf (.cond [0] (.seq .leaf (.seq .leaf (.cond [0] (.seq .leaf (.block [0] (.loop [0] (.seq (.seq .leaf (.cond [0] .leaf .leaf)) (.block [0] .leaf))))) .leaf))) .leaf)) .leaf)) .leaf)) (.seq .leaf (.seq .leaf (.seq .leaf (.seq .leaf (.block [0] (.seq .leaf (.cond [0] (.seq (.seq .leaf (.cond [0] (.seq .leaf .leaf) .leaf)) .leaf) (.seq .leaf (.cond [0] (.seq (.seq .leaf (.cond [0] (.seq .leaf .leaf) .leaf)) .leaf) (.seq .leaf (.cond [0] (.seq (.seq .leaf (.cond [0] (.seq .leaf .leaf) .leaf)) .leaf) (.seq .leaf .leaf)))))))))))))))))) (.seq .leaf .leaf)))
def sW23 : Sk := (.seq .leaf (.seq .leaf .leaf))
def sW24 : Sk := (.seq .leaf (.seq .leaf .leaf))
def sW31 : Sk := (.seq .leaf (.seq .leaf .leaf))
def sW35 : Sk := (.seq .leaf (.seq (.seq .leaf (.cond [0] (.seq .leaf .leaf) .leaf)) (.seq .leaf (.seq .leaf (.seq (.seq .leaf (.block [4] (.loop [4, 11, 12, 13] (.seq .leaf (.seq (.cond [4, 11, 12, 13] .leaf .leaf) (.seq (.block [4, 11, 12, 13] (.seq .leaf (.seq (.seq .leaf (.cond [4, 6, 11, 12, 13] (.seq .leaf .leaf) .leaf)) .leaf))) .leaf)))))) (.seq .leaf .leaf))))))
def sW36 : Sk := (.seq .leaf (.seq .leaf .leaf))
def sW37 : Sk := (.seq .leaf (.seq .leaf (.seq (.seq .leaf (.block [5] (.loop [1, 5, 8, 9, 10] (.seq .leaf (.seq (.cond [1, 5, 8, 9, 10] .leaf .leaf) (.seq (.block [1, 5, 8, 9, 10] (.seq .leaf (.seq .leaf (.cond [1, 5, 8, 9, 10] .leaf .leaf)))) .leaf)))))) (.seq .leaf .leaf))))
def sW40 : Sk := (.seq .leaf (.seq .leaf .leaf))
def sW41 : Sk := (.seq .leaf (.seq .leaf .leaf))
def sW42 : Sk := (.seq .leaf (.seq (.seq .leaf (.cond [0] (.seq .leaf .leaf) .leaf)) (.seq .leaf (.seq .leaf (.seq (.seq .leaf (.block [0, 4] (.loop [0, 4, 5, 13, 14, 15] (.seq .leaf (.seq (.cond [0, 4, 5, 13, 14, 15] .leaf .leaf) (.seq (.block [0, 4, 5, 13, 14, 15] (.seq .leaf (.seq (.seq .leaf (.cond [0, 4, 5, 7, 13, 14, 15] (.seq .leaf .leaf) .leaf)) .leaf))) .leaf)))))) (.seq .leaf (.seq .leaf .leaf)))))))
def sW50 : Sk := (.seq .leaf (.seq .leaf .leaf))
def sW51 : Sk := (.seq .leaf (.seq (.seq .leaf (.block [] (.loop [0, 1, 7, 8] (.seq .leaf (.seq (.cond [0, 1, 7, 8] .leaf .leaf) (.seq (.block [0, 1, 7, 8] (.seq .leaf (.seq .leaf (.cond [0, 1, 7, 8] (.seq .leaf .leaf) .leaf)))) .leaf)))))) (.seq .leaf .leaf)))
def sW54 : Sk := (.seq .leaf (.seq (.seq .leaf (.block [] (.loop [0, 1, 7, 8] (.seq .leaf (.seq (.cond [0, 1, 7, 8] .leaf .leaf) (.seq (.block [0, 1, 7, 8] (.seq .leaf (.seq .leaf (.cond [0, 1, 7, 8] (.seq .leaf .leaf) .leaf)))) .leaf)))))) (.seq .leaf .leaf)))
def sW59 : Sk := (.seq .leaf (.seq .leaf (.seq .leaf (.seq .leaf .leaf))))
def sW60 : Sk := (.seq .leaf (.seq (.seq .leaf (.block [] (.loop [0, 5, 6] (.seq .leaf (.seq (.cond [0, 5, 6] .leaf .leaf) (.seq (.block [0, 5, 6] (.seq .leaf (.seq .leaf (.cond [0, 5, 6] (.seq .leaf .leaf) .leaf)))) .leaf)))))) (.seq .leaf .leaf)))
def sW61 : Sk := (.seq .leaf (.seq .leaf (.seq .leaf .leaf)))
def sW62 : Sk := (.seq .leaf (.seq .leaf .leaf))
def sW63 : Sk := (.seq .leaf (.seq .leaf (.seq (.seq .leaf (.block [0, 3] (.loop [0, 3, 9, 10, 11] (.seq .leaf (.seq (.cond [0, 3, 9, 10, 11] .leaf .leaf) (.seq (.block [0, 3, 9, 10, 11] (.seq .leaf (.seq .leaf (.seq .leaf (.cond [0, 3, 9, 10, 11] .leaf .leaf))))) .leaf)))))) (.seq .leaf (.seq (.seq .leaf (.block [6] (.loop [6, 25, 26, 27] (.seq .leaf (.seq (.cond [6, 25, 26, 27] .leaf .leaf) (.seq (.block [6, 25, 26, 27] (.seq .leaf .leaf)) .leaf)))))) (.seq .leaf .leaf))))))
def sW71 : Sk := (.seq .leaf (.seq .leaf (.seq (.seq .leaf (.block [0, 3] (.loop [0, 3, 9, 10, 11] (.seq .leaf (.seq (.cond [0, 3, 9, 10, 11] .leaf .leaf) (.seq (.block [0, 3, 9, 10, 11] (.seq .leaf (.seq .leaf (.seq .leaf (.cond [0, 3, 9, 10, 11] .leaf .leaf))))) .leaf)))))) (.seq .leaf (.seq (.seq .leaf (.block [6] (.loop [6, 25, 26, 27] (.seq .leaf (.seq (.cond [6, 25, 26, 27] .leaf .leaf) (.seq (.block [6, 25, 26, 27] (.seq .leaf .leaf)) .leaf)))))) (.seq .leaf .leaf))))))
def sW72 : Sk := (.seq .leaf (.seq .leaf (.seq .leaf (.seq .leaf .leaf))))
def sW73 : Sk := (.seq .leaf (.seq .leaf .leaf))
def sW74 : Sk := (.seq .leaf (.seq .leaf (.seq (.seq .leaf (.cond [0, 1, 7] .leaf .leaf)) (.seq .leaf .leaf))))
def sW77 : Sk := (.seq .leaf (.seq (.seq .leaf (.cond [0, 1] (.seq .leaf .leaf) .leaf)) (.seq .leaf (.seq (.seq .leaf (.block [6] (.loop [0, 6, 31, 32] (.seq .leaf (.seq (.cond [0, 6, 31, 32] .leaf .leaf) (.seq (.block [0, 6, 31, 32] (.seq .leaf .leaf)) .leaf)))))) (.seq .leaf .leaf)))))
def sW86 : Sk := (.seq .leaf (.seq .leaf (.seq (.block [0, 1, 5] (.seq .leaf (.cond [0, 1, 5] (.seq .leaf .leaf) (.seq .leaf (.cond [0, 1, 5] (.seq .leaf .leaf) (.seq .leaf (.cond [0, 1, 5] (.seq .leaf .leaf) (.seq .leaf (.cond [0, 1, 5] (.seq .leaf .leaf) .leaf))))))))) (.seq .leaf (.seq .leaf (.seq .leaf (.seq .leaf (.seq .leaf (.seq (.block [] (.loop [0, 1, 5, 6, 7, 8, 9, 10] (.seq (.seq .leaf (.cond [0, 1, 5, 6, 7, 8, 9, 10] .leaf .leaf)) (.block [0, 1, 5, 6, 7, 8, 9, 10] (.seq (.seq .leaf (.cond [0, 1, 5, 6, 7, 8, 9, 10] (.seq .leaf (.seq (.seq .leaf (.cond [0, 1, 5, 6, 7, 8, 9, 10, 11] (.seq .leaf .leaf) .leaf)) .leaf)) .leaf)) (.seq (.seq .leaf (.cond [0, 1, 5, 6, 7, 8, 9, 10] (.seq .leaf .leaf) .leaf)) (.seq .leaf (.seq .leaf (.seq .leaf (.cond [0, 1, 5, 6, 7, 8, 9, 10] (.seq .leaf (.seq (.seq .leaf (.cond [] (.seq .leaf .leaf) .leaf)) (.seq .leaf .leaf))) (.seq .leaf (.cond [0, 1, 5, 6, 7, 8, 9, 10] (.seq .leaf (.seq (.seq .leaf (.cond [8, 13] (.seq .leaf .leaf) .leaf)) (.seq .leaf .leaf))) .leaf)))))))))))) (.seq .leaf .leaf))))))))))
def sW92 : Sk := (.seq .leaf (.seq (.seq .leaf (.cond [0, 1] .leaf .leaf)) (.seq (.seq .leaf (.seq .leaf (.cond [0] .leaf .leaf))) (.seq .leaf .leaf))))
def sW97 : Sk := (.seq .leaf (.seq (.seq .leaf (.cond [0, 1] .leaf .leaf)) (.seq (.seq .leaf (.seq .leaf (.cond [0] .leaf .leaf))) (.seq .leaf .leaf))))
def sW114 : Sk := (.seq .leaf (.seq .leaf .leaf))
def tabW : FT := (.node 40 ⟨1, c40⟩ (.node 16 ⟨3, c16⟩ (.node 11 ⟨0, c11⟩ (.node 7 ⟨2, c7⟩ (.node 6 ⟨0, c6⟩ (.node 4 ⟨2, c4⟩ .leaf .leaf) .leaf) (.node 9 ⟨2, c9⟩ .leaf .leaf)) (.node 14 ⟨1, c14⟩ (.node 13 ⟨1, c13⟩ (.node 12 ⟨2, c12⟩ .leaf .leaf) .leaf) (.node 15 ⟨1, c15⟩ .leaf .leaf))) (.node 24 ⟨2, c24⟩ (.node 22 ⟨1, c22⟩ (.node 21 ⟨2, c21⟩ (.node 18 ⟨3, c18⟩ .leaf .leaf) .leaf) (.node 23 ⟨2, c23⟩ .leaf .leaf)) (.node 36 ⟨2, c36⟩ (.node 35 ⟨1, c35⟩ (.node 31 ⟨2, c31⟩ .leaf .leaf) .leaf) (.node 37 ⟨2, c37⟩ .leaf .leaf)))) (.node 63 ⟨1, c63⟩ (.node 54 ⟨2, c54⟩ (.node 50 ⟨2, c50⟩ (.node 42 ⟨1, c42⟩ (.node 41 ⟨2, c41⟩ .leaf .leaf) .leaf) (.node 51 ⟨2, c51⟩ .leaf .leaf)) (.node 61 ⟨1, c61⟩ (.node 60 ⟨1, c60⟩ (.node 59 ⟨2, c59⟩ .leaf .leaf) .leaf) (.node 62 ⟨1, c62⟩ .leaf .leaf))) (.node 77 ⟨2, c77⟩ (.node 73 ⟨1, c73⟩ (.node 72 ⟨2, c72⟩ (.node 71 ⟨1, c71⟩ .leaf .leaf) .leaf) (.node 74 ⟨3, c74⟩ .leaf .leaf)) (.node 97 ⟨2, c97⟩ (.node 92 ⟨2, c92⟩ (.node 86 ⟨2, c86⟩ .leaf .leaf) .leaf) (.node 114 ⟨2, c114⟩ .leaf .leaf)))))
def GW : Cfg := cfgOf fgl tabW hookedW hookW
noncomputable def QW : FP := fpOf Tryz.prog fgl tabW hookedW hookW
theorem gW4 : Good Tryz.prog GW 4 ⟨2, c4⟩ := ⟨Tryz.f4, sW4, Tryz.func4, by kernel_rfl, by kernel_rfl⟩
theorem gW6 : Good Tryz.prog GW 6 ⟨0, c6⟩ := ⟨Tryz.f6, sW6, Tryz.func6, by kernel_rfl, by kernel_rfl⟩
theorem gW7 : Good Tryz.prog GW 7 ⟨2, c7⟩ := ⟨Tryz.f7, sW7, Tryz.func7, by kernel_rfl, by kernel_rfl⟩
theorem gW9 : Good Tryz.prog GW 9 ⟨2, c9⟩ := ⟨Tryz.f9, sW9, Tryz.func9, by kernel_rfl, by kernel_rfl⟩
theorem gW11 : Good Tryz.prog GW 11 ⟨0, c11⟩ := ⟨Tryz.f11, sW11, Tryz.func11, by kernel_rfl, by kernel_rfl⟩
theorem gW12 : Good Tryz.prog GW 12 ⟨2, c12⟩ := ⟨Tryz.f12, sW12, Tryz.func12, by kernel_rfl, by kernel_rfl⟩
theorem gW13 : Good Tryz.prog GW 13 ⟨1, c13⟩ := ⟨Tryz.f13, sW13, Tryz.func13, by kernel_rfl, by kernel_rfl⟩
theorem gW14 : Good Tryz.prog GW 14 ⟨1, c14⟩ := ⟨Tryz.f14, sW14, Tryz.func14, by kernel_rfl, by kernel_rfl⟩
theorem gW15 : Good Tryz.prog GW 15 ⟨1, c15⟩ := ⟨Tryz.f15, sW15, Tryz.func15, by kernel_rfl, by kernel_rfl⟩
theorem gW16 : Good Tryz.prog GW 16 ⟨3, c16⟩ := ⟨Tryz.f16, sW16, Tryz.func16, by kernel_rfl, by kernel_rfl⟩
theorem gW18 : Good Tryz.prog GW 18 ⟨3, c18⟩ := ⟨Tryz.f18, sW18, Tryz.func18, by kernel_rfl, by kernel_rfl⟩
theorem gW21 : Good Tryz.prog GW 21 ⟨2, c21⟩ := ⟨Tryz.f21, sW21, Tryz.func21, by kernel_rfl, by kernel_rfl⟩
theorem gW22 : Good Tryz.prog GW 22 ⟨1, c22⟩ := ⟨Tryz.f22, sW22, Tryz.func22, by kernel_rfl, by kernel_rfl⟩
theorem gW23 : Good Tryz.prog GW 23 ⟨2, c23⟩ := ⟨Tryz.f23, sW23, Tryz.func23, by kernel_rfl, by kernel_rfl⟩
theorem gW24 : Good Tryz.prog GW 24 ⟨2, c24⟩ := ⟨Tryz.f24, sW24, Tryz.func24, by kernel_rfl, by kernel_rfl⟩
theorem gW31 : Good Tryz.prog GW 31 ⟨2, c31⟩ := ⟨Tryz.f31, sW31, Tryz.func31, by kernel_rfl, by kernel_rfl⟩
theorem gW35 : Good Tryz.prog GW 35 ⟨1, c35⟩ := ⟨Tryz.f35, sW35, Tryz.func35, by kernel_rfl, by kernel_rfl⟩
theorem gW36 : Good Tryz.prog GW 36 ⟨2, c36⟩ := ⟨Tryz.f36, sW36, Tryz.func36, by kernel_rfl, by kernel_rfl⟩
theorem gW37 : Good Tryz.prog GW 37 ⟨2, c37⟩ := ⟨Tryz.f37, sW37, Tryz.func37, by kernel_rfl, by kernel_rfl⟩
theorem gW40 : Good Tryz.prog GW 40 ⟨1, c40⟩ := ⟨Tryz.f40, sW40, Tryz.func40, by kernel_rfl, by kernel_rfl⟩
theorem gW41 : Good Tryz.prog GW 41 ⟨2, c41⟩ := ⟨Tryz.f41, sW41, Tryz.func41, by kernel_rfl, by kernel_rfl⟩
theorem gW42 : Good Tryz.prog GW 42 ⟨1, c42⟩ := ⟨Tryz.f42, sW42, Tryz.func42, by kernel_rfl, by kernel_rfl⟩
theorem gW50 : Good Tryz.prog GW 50 ⟨2, c50⟩ := ⟨Tryz.f50, sW50, Tryz.func50, by kernel_rfl, by kernel_rfl⟩
theorem gW51 : Good Tryz.prog GW 51 ⟨2, c51⟩ := ⟨Tryz.f51, sW51, Tryz.func51, by kernel_rfl, by kernel_rfl⟩
theorem gW54 : Good Tryz.prog GW 54 ⟨2, c54⟩ := ⟨Tryz.f54, sW54, Tryz.func54, by kernel_rfl, by kernel_rfl⟩
theorem gW59 : Good Tryz.prog GW 59 ⟨2, c59⟩ := ⟨Tryz.f59, sW59, Tryz.func59, by kernel_rfl, by kernel_rfl⟩
theorem gW60 : Good Tryz.prog GW 60 ⟨1, c60⟩ := ⟨Tryz.f60, sW60, Tryz.func60, by kernel_rfl, by kernel_rfl⟩
theorem gW61 : Good Tryz.prog GW 61 ⟨1, c61⟩ := ⟨Tryz.f61, sW61, Tryz.func61, by kernel_rfl, by kernel_rfl⟩
theorem gW62 : Good Tryz.prog GW 62 ⟨1, c62⟩ := ⟨Tryz.f62, sW62, Tryz.func62, by kernel_rfl, by kernel_rfl⟩
theorem gW63 : Good Tryz.prog GW 63 ⟨1, c63⟩ := ⟨Tryz.f63, sW63, Tryz.func63, by kernel_rfl, by kernel_rfl⟩
theorem gW71 : Good Tryz.prog GW 71 ⟨1, c71⟩ := ⟨Tryz.f71, sW71, Tryz.func71, by kernel_rfl, by kernel_rfl⟩
theorem gW72 : Good Tryz.prog GW 72 ⟨2, c72⟩ := ⟨Tryz.f72, sW72, Tryz.func72, by kernel_rfl, by kernel_rfl⟩
theorem gW73 : Good Tryz.prog GW 73 ⟨1, c73⟩ := ⟨Tryz.f73, sW73, Tryz.func73, by kernel_rfl, by kernel_rfl⟩
theorem gW74 : Good Tryz.prog GW 74 ⟨3, c74⟩ := ⟨Tryz.f74, sW74, Tryz.func74, by kernel_rfl, by kernel_rfl⟩
theorem gW77 : Good Tryz.prog GW 77 ⟨2, c77⟩ := ⟨Tryz.f77, sW77, Tryz.func77, by kernel_rfl, by kernel_rfl⟩
theorem gW86 : Good Tryz.prog GW 86 ⟨2, c86⟩ := ⟨Tryz.f86, sW86, Tryz.func86, by kernel_rfl, by kernel_rfl⟩
theorem gW92 : Good Tryz.prog GW 92 ⟨2, c92⟩ := ⟨Tryz.f92, sW92, Tryz.func92, by kernel_rfl, by kernel_rfl⟩
theorem gW97 : Good Tryz.prog GW 97 ⟨2, c97⟩ := ⟨Tryz.f97, sW97, Tryz.func97, by kernel_rfl, by kernel_rfl⟩
theorem gW114 : Good Tryz.prog GW 114 ⟨2, c114⟩ := ⟨Tryz.f114, sW114, Tryz.func114, by kernel_rfl, by kernel_rfl⟩
theorem allW : tabW.All (Good Tryz.prog GW) := ⟨gW40, ⟨gW16, ⟨gW11, ⟨gW7, ⟨gW6, ⟨gW4, trivial, trivial⟩, trivial⟩, ⟨gW9, trivial, trivial⟩⟩, ⟨gW14, ⟨gW13, ⟨gW12, trivial, trivial⟩, trivial⟩, ⟨gW15, trivial, trivial⟩⟩⟩, ⟨gW24, ⟨gW22, ⟨gW21, ⟨gW18, trivial, trivial⟩, trivial⟩, ⟨gW23, trivial, trivial⟩⟩, ⟨gW36, ⟨gW35, ⟨gW31, trivial, trivial⟩, trivial⟩, ⟨gW37, trivial, trivial⟩⟩⟩⟩, ⟨gW63, ⟨gW54, ⟨gW50, ⟨gW42, ⟨gW41, trivial, trivial⟩, trivial⟩, ⟨gW51, trivial, trivial⟩⟩, ⟨gW61, ⟨gW60, ⟨gW59, trivial, trivial⟩, trivial⟩, ⟨gW62, trivial, trivial⟩⟩⟩, ⟨gW77, ⟨gW73, ⟨gW72, ⟨gW71, trivial, trivial⟩, trivial⟩, ⟨gW74, trivial, trivial⟩⟩, ⟨gW97, ⟨gW92, ⟨gW86, trivial, trivial⟩, trivial⟩, ⟨gW114, trivial, trivial⟩⟩⟩⟩⟩
theorem hooksW : HookSound Tryz.prog GW := by
  intro f args σ e σ1 h φ w args' hr hg ha
  simp only at h
  split at h
  case isFalse => cases h
  rename_i hh
  have h : hookW f args σ = some (e, σ1) := h
  have hh : hookedW f = true := hh
  unfold hookW at h
  cases h1 : Nat.beq f 91
  · cases h2 : Nat.beq f 65
    · cases h3 : Nat.beq f 98
      · cases h4 : Nat.beq f 69
        · simp only [hookedW, h1, h2, h3, h4, Bool.false_or] at hh
          simp only [h1, h2, h3, h4, cond_false] at h
          obtain rfl : f = 10 := Nat.eq_of_beq_eq_true hh
          exact hk10_sound args σ e σ1 h φ w args' hr ha
        · simp only [h1, h2, h3, h4, cond_false, cond_true] at h
          obtain rfl : f = 69 := Nat.eq_of_beq_eq_true h4
          exact hkRepeat_sound args σ e σ1 h φ w args' hr ha
      · simp only [h1, h2, h3, cond_false, cond_true] at h
        obtain rfl : f = 98 := Nat.eq_of_beq_eq_true h3
        exact hkLower_sound args σ e σ1 h φ w args' hr ha
    · simp only [h1, h2, cond_false, cond_true] at h
      obtain rfl : f = 65 := Nat.eq_of_beq_eq_true h2
      exact hkJoin_sound args σ e σ1 h φ w args' hr ha
  · simp only [h1, cond_true] at h
    obtain rfl : f = 91 := Nat.eq_of_beq_eq_true h1
    exact hkCopy_sound args σ e σ1 h φ w args' hr ha
theorem fineW : Fine QW GW := fine_of (by kernel_rfl) (by kernel_rfl) allW hooksW
def σW : St := ⟨8, .leaf, 0, false⟩
theorem awake_run : (fcall QW 200 6 [] σW).map (·.1) = some (.ret (.bool true)) := by kernel_rfl
def phW : PMap := ⟨fun k => ⟨k, 0, none⟩, fun _ => 0, fun _ => 0⟩
theorem get_W (k : Nat) : σW.get k = if k < 8 then some .dead else none := by
  show (if k < 8 then _ else _) = _
  split <;> rfl
theorem awake : Awake := by
  intro w
  have e := awake_run
  rw [Option.map_eq_some_iff] at e
  obtain ⟨⟨r, σ1⟩, h1, h2⟩ := e
  simp only at h2
  subst h2
  have hdead : ∀ k o, σW.get k = some o → o = .dead := by
    intro k o hk
    rw [get_W] at hk
    split at hk
    · injection hk with hk; exact hk.symm
    · cases hk
  have hr : RH Tryz.prog phW σW w := by
    refine ⟨fun k o hk => ?_, fun j k o o' hj hk ho => ?_⟩
    · rw [hdead k o hk]; trivial
    · rw [hdead j o hj] at ho; cases ho
  have hgl : GL GW phW σW := by
    intro g k hk
    have hk : fgl g = some k := hk
    unfold fgl at hk
    split at hk
    · rename_i hb
      injection hk with hk
      subst hk
      have hb' : g + 1 ≤ 8 := by simpa [Nat.blt] using hb
      exact ⟨by show g < 8; omega, rfl⟩
    · cases hk
  refine (top_sound fineW (call_iff.2 ⟨200, h1⟩) (args' := #[]) hr hgl .nil fun k o hk => by rw [hdead k o hk]; rfl).mono fun E w1 hE => ?_
  obtain ⟨v', φ1, rfl, hv, _, hb⟩ := hE
  cases hv
  exact ⟨rfl, hb⟩
end Go.AM.Fld

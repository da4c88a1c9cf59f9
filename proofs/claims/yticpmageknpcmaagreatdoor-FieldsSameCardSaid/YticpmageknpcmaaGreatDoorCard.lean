/- It is proved that FieldsSame, called with any two lists of tags (the laid tables as the text lays them), returns true and leaves its arguments as they were. The conditions: the row's own cells (laid, recurses, unfollowed). -/
import Derived.Test.YticpmageknpcmaaGreatDoorWi
import Derived.Test.YticpmageknpcmaaGreatDoorAw
set_option linter.unusedVariables false
set_option linter.unusedSimpArgs false
set_option maxRecDepth 100000
set_option linter.constructorNameAsVariable false
namespace Go.AM.Fld
open Go Go.AM Go.Proofs Go.ChangeShapes Go.WideShapes Go.ChangeAt Go.RowKit Go.Deep
open Go.Proofs.YticpmageknpcmaaGreatDoor

theorem witness_row (os : Os) {H : Type} (enc : TypeId × Value → H) :
    (OpenSpec.ofChange Rows.fieldsSameSpec).preRow enc Tryz.prog Tryz.f3 Rows.fieldsSameRow.domain false Rows.fieldsSameRow.laid (laidIn os) #[.slice none 0 0, .slice none 0 0] := by
  have hw : (DataW.whole enc Tryz.prog (laidIn os) Tryz.f3.params.toList (OpenSpec.ofChange Rows.fieldsSameSpec).vars false #[Value.slice none 0 0, .slice none 0 0].toList 8).map (fun x => (x.1, x.2.1)) = some ([.nil, .nil], []) := by kernel_rfl
  obtain ⟨⟨x1, x2, x3⟩, hx, hx1⟩ := Option.map_eq_some_iff.1 hw
  simp only [Prod.mk.injEq] at hx1
  obtain ⟨rfl, rfl⟩ := hx1
  exact OpenSpec.preRow_of_cond 8 hx (by kernel_rfl) (fun k hk => by cases hk) (by kernel_rfl) (laid_met os)

theorem lifted (hA : Awake) (os : Os) (started : os.Started) (H : Type) (enc : TypeId × Value → H) (F : Stop.Interp) :
    ReturnsInHanded {} Tryz.checked os 3 .any ((OpenSpec.ofChange Rows.fieldsSameSpec).preRow enc Tryz.prog Tryz.f3 Rows.fieldsSameRow.domain false Rows.fieldsSameRow.laid) (((OpenSpec.ofChange Rows.fieldsSameSpec).at F).post enc Tryz.prog Tryz.f3 false true false false) := by
  refine returnsInHanded_of_row (C := Tryz.checked) (s := OpenSpec.ofChange Rows.fieldsSameSpec) own_ started (by kernel_rfl) Tryz.func3
    (witness_row_atRef (enc := enc) (C := Tryz.checked) false (laidWorld os) #[.slice none 0 0, .slice none 0 0] rfl (by kernel_rfl) (by kernel_rfl) (by kernel_rfl) (witness_row os enc)) ?_
  intro W base args ds gs before hval hW _ _ _ hL _ _
  exact contract hA H enc W base args ds gs before hval hW

theorem said (hA : Awake) : Rows.FieldsSameSaid :=
  OpenClaim.holds_of_cond 3 Tryz.f3 rfl rfl rfl rfl rfl rfl rfl ⟨rfl, rfl, rfl, rfl, rfl⟩ rfl rfl rfl rfl rfl (by kernel_rfl) Tryz.func3 (by kernel_rfl)
    (of_decide_eq_true (by kernel_rfl)) (by unfold Func.isWrapper; first | (rw [if_pos (by decide +kernel)]; kernel_rfl) | (rw [if_neg (by decide +kernel)]; exact ⟨rfl, rfl⟩))
    (fun os started H enc _ F => by rw [OpenClaim.pre_eq_preRow]; exact lifted hA os started H enc F)

theorem plain (f : FuncId) (fn : Func) (hf : Tryz.pinned.checked.prog.funcNamed "lacquer/lacquerlaw24.FieldsSame" = some f) (hfn : Tryz.pinned.checked.prog.funcs[f]? = some fn) :
    false = Tryz.pinned.checked.prog.looks [] ∧ ∀ (j : Nat) t, fn.params[j]? = some t → Tryz.pinned.checked.prog.wantsStandIn t = false := by
  obtain rfl : f = 3 := Option.some.inj ((show Tryz.prog.funcNamed "lacquer/lacquerlaw24.FieldsSame" = some 3 by kernel_rfl).symm.trans hf) |>.symm
  obtain rfl : fn = Tryz.f3 := (Option.some.inj (Tryz.func3.symm.trans hfn)).symm
  refine ⟨by kernel_rfl, fun j t ht => ?_⟩
  rw [Tryz.params3] at ht
  have h22 : t = 22 := by simpa using Array.mem_of_getElem? ht
  subst h22
  exact (show Tryz.prog.wantsStandIn 22 = false by kernel_rfl)

theorem card (hA : Awake) : Rows.FieldsSameCardSaid :=
  Claim7.holds_tied_plain_at .later [] _ _ _ _ (said hA) (fun _ h => by cases h) (by kernel_rfl) (fun _ h => by cases h) fieldsSame_row_tie rfl ⟨rfl, rfl⟩ (by kernel_rfl) rfl plain (by kernel_rfl)
end Go.AM.Fld
namespace Go.Proofs.YticpmageknpcmaaGreatDoor

/-- fields.Same says of any two lists of tags what a plain comparison says. -/
theorem fieldsSame_card : Rows.FieldsSameCardSaid := Go.AM.Fld.card Go.AM.Fld.awake
#print axioms fieldsSame_card
end Go.Proofs.YticpmageknpcmaaGreatDoor

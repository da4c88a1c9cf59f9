/- A part of the proof that FieldsSame, called with any two lists of tags (the laid tables as the text lays them), returns true and leaves its arguments as they were. Here: a world in which the tables lie. -/
import Derived.Test.YticpmageknpcmaaGreatDoorAr
import Derived.Lib.LaidIn
import Derived.Lib.LaidCaseMet
import Derived.PinnedBridge
set_option linter.unusedVariables false
set_option linter.unusedSimpArgs false
set_option maxRecDepth 100000
set_option linter.constructorNameAsVariable false
namespace Go.AM.Fld
open Go Go.AM Go.Proofs Go.ChangeShapes Go.WideShapes Go.ChangeAt Go.RowKit Go.Deep Go.Lib
open Go.Proofs.YticpmageknpcmaaGreatDoor

/-! A world for the witness: the settled one, the listed tables laid in it. -/
def flatN : Nat → DataW Unit → List Value
  | _, .lit (.int k n) => [.int k n]
  | n + 1, .agg l => l.flatMap (flatN n)
  | n + 1, .slice l _ => l.flatMap (flatN n)
  | _, _ => []
def putG (h : Array Obj) (g : Nat) (cs : Array Value) : Array Obj := h.modify g fun
  | .cells _ t frozen => .cells cs t frozen
  | o => o
noncomputable def laidWorld (os : Os) : World :=
  let N := (World.settled Tryz.prog os).heap.size
  let w0 := World.holding Tryz.prog os ⟨#[.cells (flatN 3 Rows.laid_unicode_caseOrbit).toArray 148, .cells Lib.caseCells5 188], #[], []⟩
  let h1 := putG w0.heap 0 (flatN 3 Rows.laid_unicode_utf8_first).toArray
  let h2 := putG h1 1 (flatN 3 Rows.laid_unicode_utf8_acceptRanges).toArray
  let h3 := putG h2 2 (flatN 3 Rows.laid_unicode_asciiFold).toArray
  let h4 := putG h3 3 #[.slice (some ⟨N, 0, none⟩) 94 94]
  let h5 := putG h4 4 #[.slice (some ⟨N + 1, 0, none⟩) 336 336]
  { w0 with heap := h5 }
noncomputable def laidIn (os : Os) : World := ((laidWorld os).forCall (fun _ _ => 0) ⟨#[], #[.slice none 0 0, .slice none 0 0], []⟩).memory
noncomputable def N0 : Nat := (World.settled Tryz.prog default).heap.size

theorem piece1 (os : Os) : LaidIn Tryz.prog (laidIn os) [("unicode/utf8.acceptRanges", Rows.laid_unicode_utf8_acceptRanges), ("unicode.asciiFold", Rows.laid_unicode_asciiFold), ("unicode.caseOrbit", Rows.laid_unicode_caseOrbit)] [1, 2, 3, N0] :=
  LaidIn.of_run [1, 2, 3, N0] 8 (by kernel_rfl) (by kernel_rfl) (by kernel_rfl) (by kernel_rfl)
theorem piece3 (os : Os) : LaidIn Tryz.prog (laidIn os) [("unicode/utf8.first", Rows.laid_unicode_utf8_first)] [0] :=
  LaidIn.of_run [0] 8 (by kernel_rfl) (by kernel_rfl) (by kernel_rfl) (by kernel_rfl)

/-! unicode.CaseRanges, row by row. -/
theorem sz188 : Tryz.prog.cellsOf 188 = 5 := by kernel_rfl
theorem sz184 : Tryz.prog.cellsOf 184 = 1 := by kernel_rfl
theorem sz186 : Tryz.prog.cellsOf 186 = 3 := by kernel_rfl
theorem sz21 : Tryz.prog.cellsOf 21 = 1 := by kernel_rfl
theorem case_row {w : World} (x : CaseRow) (hw : rowWf x = true) (fuel : Nat) : DataW.trod (fun _ => ()) Tryz.prog w 0 (fun _ => true) false (fuel + 3) 188 (cells5 x) = some (rowData x, []) := by
  simp only [rowWf, Bool.and_eq_true] at hw
  obtain ⟨⟨⟨⟨w0, w1⟩, w2⟩, w3⟩, w4⟩ := hw
  have r3 : List.range 3 = [0, 1, 2] := rfl
  simp [DataW.trod, Tryz.underlying188, Tryz.underlying184, Tryz.underlying186, Tryz.underlying21, sz188, sz184, sz186, sz21, cells5, rowData, w0, w1, w2, w3, w4, r3]
theorem case_slice {w : World} {R oR : Nat} {T : Array CaseRow} (hT : CaseTab R oR T w) (hwf : ∀ i, i < T.size → rowWf (T.getD i (0, 0, 0, 0, 0)) = true) (hn : T.size ≤ maxLen) (fuel : Nat) :
    DataW.trod (fun _ => ()) Tryz.prog w 0 (fun _ => true) false (fuel + 4) 151 [.slice (some ⟨R, oR, none⟩) T.size T.size] =
      some (.slice ((List.range T.size).map fun i => rowData (T.getD i (0, 0, 0, 0, 0))) [], MemPlace.row ⟨R, oR, none⟩ (T.size * 5)) := by
  have helem : ∀ i ∈ List.range T.size, (w.cells? 0 ((⟨R, oR, none⟩ : Addr).add (i * 5)) 5).bind (DataW.trod (fun _ => ()) Tryz.prog w 0 (fun _ => true) false (fuel + 3) 188) = some ((fun i => ((rowData (T.getD i (0, 0, 0, 0, 0)) : DataW Unit), ([] : List MemPlace))) i) := by
    intro i hi
    have hi' := List.mem_range.1 hi
    rw [case_cells5 hT i hi']
    exact case_row _ (hwf i hi') fuel
  show DataW.trod _ _ _ _ _ _ ((fuel + 3) + 1) _ _ = _
  unfold DataW.trod
  simp only [Tryz.underlying151, sz188]
  rw [if_pos ⟨Nat.zero_le _, Nat.le_refl _, hn⟩, Lib.mapM_some _ _ _ helem]
  simp [Function.comp_def]
theorem blkR (os : Os) : (laidIn os).heap[N0 + 1]? = some (.cells Lib.caseCells5 188 (0, 0)) := by kernel_rfl
theorem blkV (os : Os) : (laidIn os).heap[4]? = some (.cells #[.slice (some ⟨N0 + 1, 0, none⟩) caseA.size caseA.size] 151 (0, 0)) := by kernel_rfl
theorem gCase : Tryz.prog.globalNamed "unicode.CaseRanges" = some 4 := by kernel_rfl
theorem N0_ne : (4 : Nat) ≠ N0 + 1 := of_decide_eq_true (by kernel_rfl)
theorem piece2 (os : Os) : LaidIn Tryz.prog (laidIn os) [("unicode.CaseRanges", Rows.laid_unicode_CaseRanges)] [4, N0 + 1] := by
  have hT := caseTab_of_block (blkR os)
  have hread := case_slice hT caseA_wf (by rw [caseA_size]; unfold maxLen; omega) 0
  rw [case_rows_data] at hread
  have hv : (laidIn os).var? Tryz.prog "unicode.CaseRanges" = some #[.slice (some ⟨N0 + 1, 0, none⟩) caseA.size caseA.size] := by simp [World.var?, gCase, blkV os]
  have e : Rows.laid_unicode_CaseRanges = caseData := Pinned.caseRanges_eq
  rw [e]
  have hin : ∀ x ∈ MemPlace.row ⟨4, 0, none⟩ 1 ++ MemPlace.row ⟨N0 + 1, 0, none⟩ (caseA.size * 5), x.block = 4 ∨ x.block = N0 + 1 := by
    intro x hx
    rcases List.mem_append.1 hx with hx | hx
    · obtain ⟨i, _, rfl⟩ := MemPlace.mem_row.1 hx; exact .inl rfl
    · obtain ⟨i, _, rfl⟩ := MemPlace.mem_row.1 hx; exact .inr rfl
  refine LaidIn.one [4, N0 + 1] gCase (by kernel_rfl) hv hread ?_ ?_ ?_
  · refine List.nodup_append.2 ⟨row_nodup _ _, row_nodup _ _, ?_⟩
    intro x hx y hy e
    subst e
    obtain ⟨i, _, h1⟩ := MemPlace.mem_row.1 hx
    obtain ⟨j, _, h2⟩ := MemPlace.mem_row.1 hy
    rw [h1] at h2
    injection h2 with h2
    exact N0_ne h2
  · intro b off hp
    rcases hin _ hp with h | h
    · have hb : b = 4 := h
      subst hb
      refine ⟨⟨_, _, blkV os⟩, fun u v hc => ?_⟩
      rw [Lib.cell_of_heap (blkV os)] at hc
      have : off = 0 ∨ off ≠ 0 := by omega
      rcases this with rfl | h0
      · cases hc
      · obtain ⟨k, rfl⟩ := Nat.exists_eq_succ_of_ne_zero h0
        simp at hc
    · have hb : b = N0 + 1 := h
      subst hb
      refine ⟨⟨_, _, blkR os⟩, fun u v hc => ?_⟩
      rw [Lib.cell_of_heap (blkR os)] at hc
      exfalso
      have hm := Array.mem_of_getElem? hc
      simp only [caseCells5, List.mem_toArray, List.mem_flatMap, cells5] at hm
      obtain ⟨y, _, hy⟩ := hm
      simp at hy
  · intro x hx
    rcases hin x hx with h | h <;> simp [h]
theorem laid_met (os : Os) : laidMet Tryz.prog Rows.fieldsSameRow.laid (laidIn os) :=
  (((piece1 os).append (piece2 os) (by kernel_rfl)).append (piece3 os) (by kernel_rfl)).met
end Go.AM.Fld

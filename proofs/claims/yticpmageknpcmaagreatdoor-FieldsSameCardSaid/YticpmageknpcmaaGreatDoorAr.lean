/- A part of the proof that FieldsSame, called with any two lists of tags (the laid tables as the text lays them), returns true and leaves its arguments as they were. Here: the arguments, and the contract. -/
import Derived.Test.YticpmageknpcmaaGreatDoorLa
import Derived.Test.YticpmageknpcmaaGreatDoorRows
import Derived.Deep.Slices
import Derived.Deep.Fields
import Derived.ChangeSame
import Derived.Carry
import Derived.WalkKit
import Derived.ProofKit
import Derived.OpenShut
import Derived.Test.YticpmageknpcmaaGreatDoorCards
import Derived.Test.YticpmageknpcmaaGreatDoorTie
import Derived.Below
import Derived.Deep.DeepHandedRow
import Derived.Deep.DeepWitnessRowRef
import Derived.SevenTiedAt
import Derived.Lib.LaidTab
set_option linter.unusedVariables false
set_option linter.unusedSimpArgs false
set_option maxRecDepth 100000
set_option linter.constructorNameAsVariable false
namespace Go.AM.Fld
open Go Go.AM Go.Proofs Go.ChangeShapes Go.WideShapes Go.ChangeAt Go.RowKit Go.Deep
open Go.Proofs.YticpmageknpcmaaGreatDoor

/-! The law's arguments, as they lie in the world. -/
/-- A slice of tags in the world. -/
def TagsAt (W : World) (v : Value) (l : List (ByteArray × ByteArray)) : Prop :=
  (v = .slice none 0 0 ∧ l = []) ∨ ∃ b o cap, v = .slice (some ⟨b, o, none⟩) l.length cap ∧ l.length ≤ cap ∧ ∀ i x, l[i]? = some x → W.cell? ⟨b, o + i * 2, none⟩ = some (.string x.1) ∧ W.cell? ⟨b, o + i * 2 + 1, none⟩ = some (.string x.2)

theorem cells26 : Tryz.prog.cellsOf 26 = 2 := by kernel_rfl
theorem cells9 : Tryz.prog.cellsOf 9 = 1 := by kernel_rfl

theorem open_tags {H : Type} {enc : TypeId × Value → H} {W : World} {v : Value} {d : DataW H} {p : List MemPlace} (hv : Value.okWide Tryz.prog W .any 0 22 v) (h : DataW.Trod enc Tryz.prog W 0 (fun _ => true) true 22 v d p) :
    ∃ l : List (ByteArray × ByteArray), l.length ≤ 9223372036854775807 ∧ TagsAt W v l := by
  obtain ⟨a, len, cap, rfl⟩ := okWide_slice Tryz.underlying22 hv
  obtain ⟨fuel, hf⟩ := h
  rcases open_slice Tryz.underlying22 hf with ⟨h0, _⟩ | ⟨b, len', cap', m, n, D, Pl, hcs, hb, hl, hm, hmm, hx, hi⟩
  · have e : (Value.slice a len cap) = .slice none 0 0 := by simpa [Value.cells] using h0
    rw [e]
    exact ⟨[], by simp, .inl ⟨rfl, rfl⟩⟩
  · have e : (Value.slice a len cap) = .slice (some b) len' cap' := by simpa [Value.cells] using hcs
    injection e with e1 e2 e3
    subst e1 e2 e3
    have hspot : b.spot = none := by
      unfold Value.okWide at hv
      rw [Tryz.underlying22] at hv
      simp only at hv
      unfold Cell.okWide at hv
      rw [Tryz.underlying22] at hv
      simp only at hv
      unfold Cell.ok at hv
      rw [Tryz.underlying22] at hv
      exact hv.2.2.2.1
    have hmc : m = cap := by simpa using hmm
    obtain ⟨blk, off, sp⟩ := b
    simp only at hspot
    subst hspot
    have key : ∀ i, i < len → ∃ x : ByteArray × ByteArray, W.cell? ⟨blk, off + i * 2, none⟩ = some (.string x.1) ∧ W.cell? ⟨blk, off + i * 2 + 1, none⟩ = some (.string x.2) := by
      intro i hil
      obtain ⟨cs', hc, ht'⟩ := hi i (by omega)
      rw [cells26] at hc
      obtain ⟨_, hcl, hat⟩ := World.cells?_some hc
      obtain ⟨y0, y1, k, _, _, g0, g1⟩ := trod_struct2 Tryz.underlying26 ht'
      simp only [cells9] at g0 g1
      obtain ⟨s0, q0, _, _⟩ := DataW.trod_string Tryz.underlying9 g0
      obtain ⟨s1, q1, _, _⟩ := DataW.trod_string Tryz.underlying9 g1
      match cs', hcl with
      | [c0, c1], _ =>
        simp at q0 q1
        have h0 := hat 0 (by omega)
        have h1 := hat 1 (by omega)
        simp only [addr_plus, q0, q1] at h0 h1
        exact ⟨(s0, s1), by simpa using h0, by simpa using h1⟩
    refine ⟨(List.range len).map fun i => if h : i < len then Classical.choose (key i h) else default, ?_, .inr ⟨blk, off, cap, by simp, by simpa using hl, ?_⟩⟩
    · simp only [List.length_map, List.length_range]
      unfold maxLen at hm
      omega
    · intro i x hx
      have hil : i < len := by
        have := (List.getElem?_eq_some_iff.1 hx).1
        simpa using this
      simp only [List.getElem?_map, List.getElem?_range hil, Option.map_some, hil, dif_pos, Option.some.injEq] at hx
      subst hx
      exact Classical.choose_spec (key i hil)

/-! The first abstract state: the arguments' cells, which may be read alone. -/
def argObj (l : List (ByteArray × ByteArray)) : AObj := if l = [] then .dead else .cells (l.flatMap row) 26 false
def argAt : Value → Addr
  | .slice (some a) _ _ => ⟨a.block, a.off, none⟩
  | _ => ⟨0, 0, none⟩
def argVal (h : Nat) : Value → Value
  | .slice (some _) n c => .slice (some ⟨h, 0, none⟩) n c
  | v => v
def argSt (la lb : List (ByteArray × ByteArray)) : St := ((⟨0, .leaf, 0, false⟩ : St).alloc (argObj la)).alloc (argObj lb)
def argMap (va vb : Value) : PMap := { at_ := fun k => if k = 0 then argAt va else argAt vb, room := fun _ => 0, sz := fun _ => 2 }

theorem flat_len : ∀ l : List (ByteArray × ByteArray), (l.flatMap row).length = l.length * 2 := by
  intro l
  induction l with
  | nil => rfl
  | cons x l ih => simp [row, ih]; omega
theorem flat_row : ∀ (l : List (ByteArray × ByteArray)) (i : Nat) (x : ByteArray × ByteArray), l[i]? = some x → ((l.flatMap row).drop (i * 2)).take 2 = row x := by
  intro l
  induction l with
  | nil => intro i x h; simp at h
  | cons y l ih =>
    intro i x h
    cases i with
    | zero => simp at h; subst h; rfl
    | succ i =>
      have e : (i + 1) * 2 = i * 2 + 1 + 1 := by omega
      rw [e]
      simpa [row] using ih i x (by simpa using h)
theorem flat_cell : ∀ (l : List (ByteArray × ByteArray)) (k : Nat) (v : Value), (l.flatMap row)[k]? = some v → ∃ i x, l[i]? = some x ∧ ((k = i * 2 ∧ v = .string x.1) ∨ (k = i * 2 + 1 ∧ v = .string x.2)) := by
  intro l
  induction l with
  | nil => intro k v h; simp at h
  | cons y l ih =>
    intro k v h
    match k with
    | 0 => simp [row] at h; exact ⟨0, y, rfl, .inl ⟨rfl, h.symm⟩⟩
    | 1 => simp [row] at h; exact ⟨0, y, rfl, .inr ⟨rfl, h.symm⟩⟩
    | k + 2 =>
      obtain ⟨i, x, h1, h2⟩ := ih k v (by simpa [row] using h)
      exact ⟨i + 1, x, by simpa using h1, (by rcases h2 with ⟨h2, h3⟩ | ⟨h2, h3⟩; exact .inl ⟨by omega, h3⟩; exact .inr ⟨by omega, h3⟩)⟩

section
variable {W : World} {va vb : Value} {la lb : List (ByteArray × ByteArray)}
theorem argSt_get (h : Nat) : (argSt la lb).get h = if h = 0 then some (argObj la) else if h = 1 then some (argObj lb) else none := by
  unfold argSt
  rw [St.get_alloc, St.get_alloc]
  simp only [St.n_alloc]
  match h with
  | 0 => rfl
  | 1 => rfl
  | h + 2 => simp [St.get]
theorem arg_own (h : Nat) (o : AObj) (hg : (argSt la lb).get h = some o) : own o = false := by
  rw [argSt_get] at hg
  have key : ∀ l, own (argObj l) = false := fun l => by unfold argObj; split <;> rfl
  split at hg
  · injection hg with hg; rw [← hg]; exact key la
  · split at hg
    · injection hg with hg; rw [← hg]; exact key lb
    · cases hg
theorem arg_ro {φ : PMap} {n h : Nat} {v : Value} {l : List (ByteArray × ByteArray)} (ht : TagsAt W v l) (hat : φ.at_ h = argAt v) (hsz : φ.sz h = 2) : RO Tryz.prog φ n h W (argObj l) := by
  unfold argObj
  split
  · trivial
  · rename_i hne
    rcases ht with ⟨_, h0⟩ | ⟨b, o, cap, rfl, _, hc⟩
    · exact absurd h0 hne
    have hblk : ∃ cs' t' fr, W.heap[b]? = some (.cells cs' t' fr) := by
      obtain ⟨x, hx⟩ : ∃ x, l[0]? = some x := by
        cases l with
        | nil => exact absurd rfl hne
        | cons x l => exact ⟨x, rfl⟩
      have h1 := (hc 0 x hx).1
      unfold World.cell? at h1
      split at h1
      · rename_i c t fr hh
        exact ⟨c, t, fr, hh⟩
      · cases h1
    obtain ⟨cs', t', fr, hh⟩ := hblk
    have hcell : ∀ k v, W.cell? ⟨b, k, none⟩ = some v → cs'[k]? = some v := by
      intro k v hk
      simpa [World.cell?, hh] using hk
    refine ⟨⟨by rw [hat]; rfl, ?_⟩, cs', t', fr, by rw [hat]; exact hh, fun k v hv => ?_, fun s hs => ?_, fun h => by cases h⟩
    · rw [List.all_eq_true]
      intro v hv
      obtain ⟨k, hk⟩ := List.getElem?_of_mem hv
      obtain ⟨i, x, _, h2⟩ := flat_cell l k v hk
      rcases h2 with ⟨_, rfl⟩ | ⟨_, rfl⟩ <;> rfl
    · obtain ⟨i, x, h1, h2⟩ := flat_cell l k v hv
      have e : (φ.at_ h).off = o := by rw [hat]; rfl
      rw [e]
      rcases h2 with ⟨rfl, rfl⟩ | ⟨rfl, rfl⟩
      · exact ⟨_, hcell _ _ (hc i x h1).1, .string _⟩
      · exact ⟨_, hcell _ _ (by rw [← Nat.add_assoc]; exact (hc i x h1).2), .string _⟩
    · rw [show szOf Tryz.prog 26 = some 2 by kernel_rfl] at hs
      injection hs with hs
      rw [hsz, hs]
theorem arg_rh (ha : TagsAt W va la) (hb : TagsAt W vb lb) : RH Tryz.prog (argMap va vb) (argSt la lb) W := by
  refine ⟨fun h o hg => ?_, fun h k o o' hg _ ho => by rw [arg_own h o hg] at ho; cases ho⟩
  rw [argSt_get] at hg
  split at hg
  · rename_i e
    injection hg with hg
    subst hg e
    exact arg_ro ha rfl rfl
  · split at hg
    · rename_i e
      injection hg with hg
      subst hg e
      exact arg_ro hb rfl rfl
    · cases hg
theorem arg_rv {φ : PMap} {n h : Nat} {v : Value} {l : List (ByteArray × ByteArray)} (ht : TagsAt W v l) (hat : φ.at_ h = argAt v) (hn : h < n) : RV φ n (argVal h v) v := by
  rcases ht with ⟨rfl, _⟩ | ⟨b, o, cap, rfl, hl, _⟩
  · exact .nilSlice
  · have e : b = (φ.at_ h).block := by rw [hat]; rfl
    have e2 : (φ.at_ h).off = o := by rw [hat]; rfl
    have e3 : (φ.at_ h).spot = none := by rw [hat]; rfl
    show RV φ n (.slice (some ⟨h, 0, none⟩) l.length cap) (.slice (some ⟨b, o, none⟩) l.length cap)
    rw [e]
    exact .slice h 0 o l.length cap cap hn e3 (fun _ => by rw [e2]; rfl) hl (Nat.le_refl _) (.inl rfl)
theorem arg_tags {σ : St} {h : Nat} {v : Value} {l : List (ByteArray × ByteArray)} (ht : TagsAt W v l) (hg : σ.get h = some (argObj l)) : Tags σ (argVal h v) l := by
  rcases ht with ⟨rfl, rfl⟩ | ⟨b, o, cap, rfl, hl, hc⟩
  · exact .inl ⟨rfl, none, 0, rfl⟩
  · refine .inr ⟨h, 0, cap, rfl, fun i x hx => ?_⟩
    have hne : ¬ l = [] := by intro e; subst e; simp at hx
    unfold argObj at hg
    rw [if_neg hne] at hg
    have hil : i < l.length := (List.getElem?_eq_some_iff.1 hx).1
    unfold St.row?
    simp only [hg, Nat.zero_add]
    rw [if_pos (by rw [flat_len]; omega), flat_row l i x hx]
/-- WHAT THE LAW's CALL DOES. -/
theorem law (hA : Awake) (ha : TagsAt W va la) (hb : TagsAt W vb lb) (hn : la.length ≤ 9223372036854775807) : Calls Tryz.prog 3 #[va, vb] W fun e W' => e = .returned (.bool true) ∧ RowKit.Below W.heap.size W W' := by
  have h6 : callW LQ 6 [] (argSt la lb) = some (.ret (.bool true), argSt la lb) := callW_hook (Q := LQ) rfl [] _
  have h3 := call3 has (arg_tags (σ := argSt la lb) (h := 0) ha (by rw [argSt_get]; rfl)) (arg_tags (σ := argSt la lb) (h := 1) hb (by rw [argSt_get]; rfl)) hn h6
  have hr := arg_rh ha hb
  refine (top_sound (fine hA) h3 hr (fun g h hg => by cases hg) (.cons (arg_rv ha rfl (by show 0 < 2; omega)) (.cons (arg_rv hb rfl (by show 1 < 2; omega)) .nil)) arg_own).mono fun e w1 hE => ?_
  obtain ⟨v', φ1, h1, h2, _, h4⟩ := hE
  cases h2
  exact ⟨h1, h4⟩
end
end Go.AM.Fld
namespace Go.AM.Fld
open Go Go.AM Go.Proofs Go.ChangeShapes Go.WideShapes Go.ChangeAt Go.RowKit Go.Deep
open Go.Proofs.YticpmageknpcmaaGreatDoor

section
variable {H : Type} {enc : TypeId × Value → H} {P : Program}
/-- What the claim asks behind the call, where below the heap's old end nothing has turned. -/
theorem post_below {f : Func} {s : ChangeSpec} {apart fresh handsOn again : Bool} {W W' : World} {args : Array Value} {v : Value} {ds gs : List (DataW H)} {before pa pv : List MemPlace}
    (hW : DataW.Whole enc P f.params.toList s.vars apart W args.toList ds gs before)
    (hres : ∀ (b : Nat) (sp : Nat → Bool) (hd : Bool), DataW.TrodAll enc P W' b sp hd f.resultTypes.toList (v.resultList f.resultTypes.size) (s.fn H (ds ++ gs)).results [])
    (hargs : ∀ sp : Nat → Bool, (∀ p ∈ before, sp p.block = true) → DataW.TrodAll enc P W' 0 sp true f.params.toList args.toList (s.fn H (ds ++ gs)).args pa)
    (hvars : ∀ sp : Nat → Bool, (∀ p ∈ before, sp p.block = true) → DataW.TrodVars enc P W' sp s.vars (s.fn H (ds ++ gs)).vars pv)
    (hps : before = pa ++ pv) (hb : RowKit.Below W.heap.size W W')
    (hok : ∀ (j : Nat) (t : TypeId) (r : Value), f.resultTypes[j]? = some t → (v.resultList f.resultTypes.size)[j]? = some r → Value.okWide P W' .any 0 t r) :
    s.post enc P f apart fresh handsOn again W args v W' := by
  have hlt : ∀ p ∈ before, p.block < W.heap.size := fun p hp => hW.lt p hp
  have hold : ∀ p ∈ before, (fun b => decide (b < W.heap.size)) p.block = true := fun p hp => by simpa using hlt p hp
  refine ⟨ds, gs, before, [], pa, pv, hW, hres _ _ _, hargs _ hold, hvars _ hold, World.keptBut_mono (fun p hp => ⟨hp, ?_⟩) (hb.frame (· ∈ before)), fun _ => ?_⟩
  · rw [hps, List.mem_append] at hp
    exact Or.inr hp
  · obtain ⟨_, _, _, _, _, hz, hn⟩ := hW
    refine ⟨hok, _, _, ([] ++ pa) ++ pv, ⟨[] ++ pa, pv, trodAll_append (hargs _ (fun _ _ => rfl)) (hres _ _ _), hvars _ (fun _ _ => rfl), rfl, ?_, ?_⟩, ?_⟩
    · intro b off hp
      have hin : MemPlace.cell b off ∈ before := by rw [hps]; simpa using hp
      rw [hb.frozen (hlt _ hin)]
      exact hz b off hin
    · intro ha
      have := hn ha
      rw [hps] at this
      simpa using this
    · intro p hp _
      rw [hps]
      simpa using hp
end

theorem own_ : ownKnob Tryz.prog.godebug = none := by kernel_rfl
theorem laidOut : laidOutB Tryz.prog = true := by kernel_rfl

theorem contract (hA : Awake) (H : Type) (enc : TypeId × Value → H) (W : World) (base : Nat) (args : Array Value) (ds gs : List (DataW H)) (before : List MemPlace)
    (hval : ∀ (j : Nat) t v, Tryz.f3.params[j]? = some t → args[j]? = some v → Value.okWide Tryz.prog W .any base t v)
    (hW : DataW.Whole enc Tryz.prog Tryz.f3.params.toList Rows.fieldsSameSpec.vars false W args.toList ds gs before) :
    Calls Tryz.prog 3 args W fun e W' => ∃ v, e = .returned v ∧ Rows.fieldsSameSpec.post enc Tryz.prog Tryz.f3 false true false false W args v W' := by
  have hW' := hW
  obtain ⟨p, q, hA0, hV, rfl, hfz, hnd⟩ := hW
  have hT : DataW.TrodAll enc Tryz.prog W 0 (fun _ => true) true Tryz.f3.params.toList args.toList ds p := hA0
  rw [Tryz.params3] at hT hval
  obtain ⟨v0, vs0, d0, ds0, p0, q0, hargs, rfl, rfl, h0, r0⟩ := trodAll_cons hT
  obtain ⟨v1, vs1, d1, ds1, p1, q1, rfl, rfl, rfl, h1, r1⟩ := trodAll_cons r0
  obtain ⟨rfl, rfl, rfl⟩ := trodAll_nil r1
  obtain rfl : args = #[v0, v1] := by cases args; simp_all
  obtain ⟨rfl, rfl⟩ := trodVars_none hV
  have ok0 : Value.okWide Tryz.prog W .any 0 22 v0 := hval 0 22 v0 rfl rfl
  have ok1 : Value.okWide Tryz.prog W .any 0 22 v1 := hval 1 22 v1 rfl rfl
  obtain ⟨la, hla, ta⟩ := open_tags ok0 h0
  obtain ⟨lb, hlb, tb⟩ := open_tags ok1 h1
  simp only [List.append_nil] at hW'
  refine (law hA ta tb hla).mono fun e W' ⟨he, hb⟩ => ?_
  subst he
  have hlt0 : ∀ x ∈ p0, x.block < W.heap.size := fun x hx => hW'.lt x (by simp [hx])
  have hlt1 : ∀ x ∈ p1, x.block < W.heap.size := fun x hx => hW'.lt x (by simp [hx])
  have k0 : ∀ sp : Nat → Bool, (∀ p ∈ p0 ++ p1, sp p.block = true) → DataW.Trod enc Tryz.prog W' 0 sp true 22 v0 d0 p0 := fun sp hs =>
    WideElems.Trod_stays laidOut (by kernel_rfl) (of_decide_eq_true (by kernel_rfl)) h0 (fun x hx => hb.same (hlt0 x hx)) (fun x hx => hs x (by simp [hx]))
  have k1 : ∀ sp : Nat → Bool, (∀ p ∈ p0 ++ p1, sp p.block = true) → DataW.Trod enc Tryz.prog W' 0 sp true 22 v1 d1 p1 := fun sp hs =>
    WideElems.Trod_stays laidOut (by kernel_rfl) (of_decide_eq_true (by kernel_rfl)) h1 (fun x hx => hb.same (hlt1 x hx)) (fun x hx => hs x (by simp [hx]))
  exact ⟨_, rfl, post_below (pa := p0 ++ p1) (pv := []) (args := #[v0, v1]) hW' (fun _ _ _ => trodAll_cons_mk (shut_bool Tryz.underlying4 _) trodAll_mk0) (fun sp hs => trodAll_mk2 (k0 sp hs) (k1 sp hs)) (fun _ _ => rfl) (by simp)
    hb (ok_one (by kernel_rfl) rfl (okWide_bool_mk Tryz.underlying4 _))⟩

end Go.AM.Fld

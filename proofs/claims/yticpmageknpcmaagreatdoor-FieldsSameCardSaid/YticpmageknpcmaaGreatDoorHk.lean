/- A part of the proof that FieldsSame, called with any two lists of tags (the laid tables as the text lays them), returns true and leaves its arguments as they were. Here: functions of the library that are given by contract. -/
import Derived.Test.YticpmageknpcmaaGreatDoorSh
import Derived.Test.YticpmageknpcmaaGreatDoorAmF
import Derived.KernelRfl
set_option linter.unusedVariables false
set_option linter.unusedSimpArgs false
set_option maxRecDepth 100000
namespace Go.AM.Fld
open Go Go.AM Go.Proofs

/-! The library's functions that are given by hand. -/
theorem lays240 : Lays.n240 Tryz.prog Tryz.lays159_ren := { mixed := Tryz.lays159.mixed, f240 := Tryz.lays159.f240, f276 := Tryz.lays159.f276, t0 := Tryz.lays159.t0, a0 := Tryz.lays159.a0, z0 := Tryz.lays159.z0, v0 := Tryz.lays159.v0, t4 := Tryz.lays159.t4, a4 := Tryz.lays159.a4, z4 := Tryz.lays159.z4, v4 := Tryz.lays159.v4, t9 := Tryz.lays159.t9, a9 := Tryz.lays159.a9, z9 := Tryz.lays159.z9, v9 := Tryz.lays159.v9, t20 := Tryz.lays159.t20, a20 := Tryz.lays159.a20, z20 := Tryz.lays159.z20, v20 := Tryz.lays159.v20, t70 := Tryz.lays159.t70, a70 := Tryz.lays159.a70, z70 := Tryz.lays159.z70, v70 := Tryz.lays159.v70, t72 := Tryz.lays159.t72, a72 := Tryz.lays159.a72, z72 := Tryz.lays159.z72, v72 := Tryz.lays159.v72, t164 := Tryz.lays159.t164, a164 := Tryz.lays159.a164, z164 := Tryz.lays159.z164, v164 := Tryz.lays159.v164 }
theorem x72 : Builder.X72 Tryz.prog Tryz.lays159_ren := { sizeBuilder := Tryz.Builder_Extra_159.sizeBuilder, liesBuilder := Tryz.Builder_Extra_159.liesBuilder }

/-- A function that is given by hand, and is right. -/
def HS (f : FuncId) (hk : List Value → St → AOut) : Prop := ∀ args σ e σ1, hk args σ = some (e, σ1) → ∀ φ w (args' : Array Value), RH Tryz.prog φ σ w → RVl φ σ.n args args'.toList → Calls Tryz.prog f args' w (ERel Tryz.prog φ σ w e σ1)

def hkCopy (args : List Value) (σ : St) : AOut := match args with
  | [.pointer (some ⟨h, 0, none⟩)] => match σ.get h with
    | some (.cells [.pointer none, b] 114 true) => (σ.setCell? ⟨h, 0, none⟩ (.pointer (some ⟨h, 0, none⟩))).map fun σ1 => (.ret (.tuple #[]), σ1)
    | some (.cells [.pointer (some ⟨h', 0, none⟩), b] 114 true) => if h' = h then some (.ret (.tuple #[]), σ) else none
    | _ => none
  | _ => none

theorem sole114 : soleT Tryz.prog 114 = true := by kernel_rfl
theorem hkCopy_sound : HS 91 hkCopy := by
  intro args σ e σ1 h φ w args' hr ha
  obtain ⟨l⟩ := args'
  unfold hkCopy at h
  split at h
  case h_2 => cases h
  rename_i hd
  cases ha with
  | cons hx hl =>
  cases hl
  cases hx with
  | ptr _ _ hn hsp0 =>
  split at h
  case h_3 => cases h
  case h_1 b hg =>
    obtain ⟨⟨hsp, hall⟩, cs', t', fr, hh, hcell, hsz, hw⟩ := hr.objs hd _ hg
    obtain ⟨rfl, hroom, hlen, hfr, hsole⟩ := hw rfl
    obtain ⟨hoff, hsize⟩ := hsole sole114
    obtain ⟨v', hv1, hv2⟩ := hcell 0 _ rfl
    cases hv2
    rw [hoff] at hv1 ⊢
    simp only [Nat.zero_add, List.length_cons, List.length_nil] at hv1 hsize
    rw [Option.map_eq_some_iff] at h
    obtain ⟨σ2, h1, h2⟩ := h
    injection h2 with h2 h3
    subst h2 h3
    have hc : w.cell? ⟨(φ.at_ hd).block, 0, none⟩ = some (.pointer none) := by simp [World.cell?, hh, hv1]
    have hfz : w.frozen? ⟨(φ.at_ hd).block, 0, none⟩ = false := by
      have := hfr 0 (by omega)
      obtain ⟨lo, hi⟩ := fr
      simp only [World.frozen?, hh]
      simpa [Bool.and_eq_false_iff] using this
    have hsh : w.shape? (φ.at_ hd).block = some (114, 2) := by unfold World.shape?; rw [hh]; simp [hsize]
    refine (Any.Builder_copyCheck_fresh lays240 x72 (φ.at_ hd).block w hc hsh hfz).mono fun E w1 hE => ?_
    obtain ⟨rfl, rfl⟩ := hE
    have hst := sim_store hr (a := ⟨hd, 0, none⟩) (a' := ⟨(φ.at_ hd).block, 0, none⟩) ⟨hd, 0, hn, hsp0, rfl, by rw [hoff]⟩ (RV.ptr hd 0 hn hsp0) .plain () σ2 (by simp only [Go.store, arun, h1])
    obtain ⟨φ1, w1, u, e1, hf, hr1, _⟩ := hst
    have e2 : (Go.store ⟨(φ.at_ hd).block, 0, none⟩ (.pointer (some ⟨(φ.at_ hd).block, (φ.at_ hd).off + 0, none⟩)) .plain).run Tryz.prog w = .ok () (w.setCell ⟨(φ.at_ hd).block, 0, none⟩ (.pointer (some ⟨(φ.at_ hd).block, 0, none⟩))) := by
      simp [Go.store, Sem.run, hc, hfz, hoff]
    rw [e2] at e1
    injection e1 with _ e1
    subst e1
    exact ⟨φ1, hf, hr1, .tuple .nil⟩
  case h_2 h' b hg =>
    split at h
    case isFalse => cases h
    rename_i he
    subst he
    injection h with h
    injection h with h2 h3
    subst h2 h3
    obtain ⟨⟨hsp, hall⟩, cs', t', fr, hh, hcell, hsz, hw⟩ := hr.objs _ _ hg
    obtain ⟨rfl, hroom, hlen, hfr, hsole⟩ := hw rfl
    obtain ⟨hoff, hsize⟩ := hsole sole114
    obtain ⟨v', hv1, hv2⟩ := hcell 0 _ rfl
    cases hv2
    rw [hoff] at hv1 ⊢
    simp only [Nat.zero_add, List.length_cons, List.length_nil] at hv1 hsize
    have hc : w.cell? ⟨(φ.at_ h').block, 0, none⟩ = some (.pointer (some ⟨(φ.at_ h').block, 0, none⟩)) := by simp [World.cell?, hh, hv1]
    refine (Any.Builder_copyCheck_used lays240 x72 (φ.at_ h').block w hc).mono fun E w1 hE => ?_
    obtain ⟨rfl, rfl⟩ := hE
    exact ⟨φ, .refl _ _ _, hr, .tuple .nil⟩

def hkLower (args : List Value) (σ : St) : AOut := match args with
  | [.string s] => if Nat.ble s.size 140737488355328 = true ∧ (s.data.toList.all fun b => Nat.blt b.toNat 128) = true then some (.ret (.string ⟨⟨Lib.toLowerA s.data.toList⟩⟩), σ) else none
  | _ => none
theorem hkLower_sound : HS 98 hkLower := by
  intro args σ e σ1 h φ w args' hr ha
  obtain ⟨l⟩ := args'
  unfold hkLower at h
  split at h
  case h_2 => cases h
  rename_i s
  split at h
  case isFalse => cases h
  rename_i hc
  injection h with h
  injection h with h2 h3
  subst h2 h3
  cases ha with
  | cons hx hl =>
  cases hl
  cases hx
  refine hook_below hr (.string _) (Tryz.strings_ToLower_ascii s w (Nat.le_of_ble_eq_true hc.1) fun j b hb => ?_)
  have := List.all_eq_true.1 hc.2 b (List.mem_of_getElem? hb)
  have h2 : b.toNat ≤ 127 := by simpa [Nat.blt, Nat.ble_eq] using this
  omega

def hkRepeat (args : List Value) (σ : St) : AOut := match args with
  | [.string s, .int .i64 (.ofNat c)] => if Nat.ble c 1000 = true ∧ Nat.ble s.size 1000 = true then some (.ret (.string ⟨⟨Lib.repeatL s.data.toList c⟩⟩), σ) else none
  | _ => none
theorem hkRepeat_sound : HS 69 hkRepeat := by
  intro args σ e σ1 h φ w args' hr ha
  obtain ⟨l⟩ := args'
  unfold hkRepeat at h
  split at h
  case h_2 => cases h
  rename_i s c
  split at h
  case isFalse => cases h
  rename_i hc
  injection h with h
  injection h with h2 h3
  subst h2 h3
  cases ha with
  | cons hx hl =>
  cases hl with
  | cons hy hl =>
  cases hl
  cases hx
  cases hy
  have h1 := Nat.le_of_ble_eq_true hc.1
  have h2 := Nat.le_of_ble_eq_true hc.2
  exact hook_below hr (.string _) (Tryz.strings_Repeat s c w (by omega) (Nat.le_trans (Nat.mul_le_mul h2 h1) (by omega)))

def strOf : Value → Option ByteArray
  | .string s => some s
  | _ => none
def hkJoin (args : List Value) (σ : St) : AOut := match args with
  | [.slice none 0 0, .string sep] => some (.ret (.string ⟨⟨[]⟩⟩), σ)
  | [.slice (some ⟨h, o, none⟩) l c, .string sep] => match σ.row? ⟨h, o, none⟩ l with
    | some r => match r.mapM strOf with
      | some xs => if Nat.blt 0 c = true ∧ Nat.ble l c = true ∧ Nat.ble l 1000 = true ∧ Nat.ble (Lib.join (xs.map (·.data.toList)) sep.data.toList).length 100000 = true then some (.ret (.string ⟨⟨Lib.join (xs.map (·.data.toList)) sep.data.toList⟩⟩), σ) else none
      | none => none
    | none => none
  | _ => none
theorem mapM_strOf : ∀ {r : List Value} {xs : List ByteArray}, r.mapM strOf = some xs → r = xs.map Value.string := by
  intro r
  induction r with
  | nil => intro xs h; simp at h; subst h; rfl
  | cons v r ih =>
    intro xs h
    rw [List.mapM_cons] at h
    cases hv : strOf v with
    | none => rw [hv] at h; cases h
    | some s =>
      cases hm : r.mapM strOf with
      | none => rw [hv, hm] at h; cases h
      | some ys =>
        rw [hv, hm] at h
        injection h with h
        subst h
        cases v <;> simp [strOf] at hv
        subst hv
        rw [ih hm]
        rfl
theorem hkJoin_sound : HS 65 hkJoin := by
  intro args σ e σ1 h φ w args' hr ha
  obtain ⟨l'⟩ := args'
  unfold hkJoin at h
  split at h
  case h_3 => cases h
  case h_1 sep =>
    injection h with h
    injection h with h2 h3
    subst h2 h3
    cases ha with
    | cons hx hl =>
    cases hl with
    | cons hy hl =>
    cases hl
    cases hx
    cases hy
    refine hook_below hr (.string _) ((Tryz.strings_Join_none none 0 sep w).mono fun E w1 hE => ?_)
    obtain ⟨rfl, rfl⟩ := hE
    exact ⟨rfl, RowKit.Below.refl _ _⟩
  case h_2 hd o l c sep =>
    split at h
    case h_2 => cases h
    rename_i r hrow
    split at h
    case h_2 => cases h
    rename_i xs hxs
    split at h
    case isFalse => cases h
    rename_i hc
    obtain ⟨hc0, hlc, hl1, hj⟩ := hc
    injection h with h
    injection h with h2 h3
    subst h2 h3
    cases ha with
    | cons hx hl =>
    cases hl with
    | cons hy hl =>
    cases hl
    cases hy
    obtain rfl := mapM_strOf hxs
    cases hx with
    | slice _ _ o' _ _ c' g1 g2 g3 g4 g5 g6 =>
    have hc0' : 1 ≤ c := by simpa [Nat.blt] using hc0
    obtain ⟨vs, r1, r2, r3⟩ := row_run hr (a := ⟨hd, o, none⟩) (a' := ⟨(φ.at_ hd).block, o', none⟩) ⟨hd, o, g1, g2, rfl, by rw [g3 hc0']⟩ hrow
    have hlen := (row_cell (σ := σ) rfl hrow).1
    simp only [List.length_map] at hlen
    subst hlen
    have hblk : (φ.at_ hd).block < w.heap.size := by
      unfold St.row? at hrow
      split at hrow
      · rename_i cs t wr hg
        exact ro_block (hr.objs hd _ hg) rfl
      · cases hrow
    have h1 := Nat.le_of_ble_eq_true hl1
    have h2 := Nat.le_of_ble_eq_true hj
    exact hook_below hr (.string _) (Tryz.strings_Join (φ.at_ hd).block o' c' xs sep w (fun j x hx => by
      obtain ⟨v', e1, e2⟩ := r1.get j (v := .string x) (by simp [hx])
      cases e2
      have := r3 j _ e1
      rwa [addr_add] at this) hblk (by omega) (by omega) (by omega))
end Go.AM.Fld

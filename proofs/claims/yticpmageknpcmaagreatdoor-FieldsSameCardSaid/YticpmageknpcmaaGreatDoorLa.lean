/- A part of the proof that FieldsSame, called with any two lists of tags (the laid tables as the text lays them), returns true and leaves its arguments as they were. Here: the law's own body. -/
import Derived.Test.YticpmageknpcmaaGreatDoorAmF
import Derived.Test.YticpmageknpcmaaGreatDoorCo
import Derived.Test.YticpmageknpcmaaGreatDoorProg
import Derived.KernelRfl
set_option linter.unusedVariables false
set_option linter.unusedSimpArgs false
set_option maxRecDepth 100000
namespace Go.AM.Fld
open Go Go.AM

def row (x : ByteArray × ByteArray) : List Value := [.string x.1, .string x.2]
/-- A slice of tags that lies in the heap. -/
def Tags (σ : St) (v : Value) (l : List (ByteArray × ByteArray)) : Prop :=
  (l = [] ∧ ∃ a c, v = .slice a 0 c) ∨ ∃ h o c, v = .slice (some ⟨h, o, none⟩) l.length c ∧ ∀ i x, l[i]? = some x → σ.row? ⟨h, o + i * 2, none⟩ 2 = some (row x)

theorem cells_row (x y : ByteArray × ByteArray) : cellsEq [1, 1] (row x) (row y) = some (decide (x = y)) := by
  obtain ⟨a, b⟩ := x
  obtain ⟨c, d⟩ := y
  simp only [row, cellsEq, leafEq, fleq_eq]
  by_cases h1 : a.data.toList = c.data.toList
  · by_cases h2 : b.data.toList = d.data.toList
    · have e1 : a = c := ByteArray.ext (Array.ext' h1)
      have e2 : b = d := ByteArray.ext (Array.ext' h2)
      subst e1 e2
      simp
    · have : ¬ b = d := fun e => h2 (by rw [e])
      simp [h1, h2, this]
  · have : ¬ a = c := fun e => h1 (by rw [e])
    simp [h1, this]

section
variable {Q : FP} {σ : St} {ha oa ca hb ob cb : Nat} {l m : List (ByteArray × ByteArray)}
theorem body7 (hl : ∀ i x, l[i]? = some x → σ.row? ⟨ha, oa + i * 2, none⟩ 2 = some (row x)) (hm : ∀ i x, m[i]? = some x → σ.row? ⟨hb, ob + i * 2, none⟩ 2 = some (row x)) (hn : l.length ≤ 9223372036854775807)
    {i : Nat} (hlt : i < l.length) (hlt2 : i < m.length) : execW Q c7_1 [.slice (some ⟨ha, oa, none⟩) l.length ca, .slice (some ⟨hb, ob, none⟩) m.length cb, .int .i64 l.length, .int .i64 i] σ =
      if l[i] = m[i] then some (.nx [.slice (some ⟨ha, oa, none⟩) l.length ca, .slice (some ⟨hb, ob, none⟩) m.length cb, .int .i64 l.length, .int .i64 ((i + 1 : Nat) : Int)], σ) else some (.ret (.bool false), σ) := by
  have h1 := hl i l[i] (List.getElem?_eq_getElem hlt)
  have h2 := hm i m[i] (List.getElem?_eq_getElem hlt2)
  have h3 := fbin_inc (show i < 9223372036854775807 by omega)
  by_cases h : l[i] = m[i]
  · rw [if_pos h]
    simp only [c7_1, execW_seq, execW_ops, execW_cond, execW_exit, execW_ret, execW_block, opsW_op, opsW_nil, opsW_shuf, opsW_chk, gok_none, gok_some, if_true, if_false, Bool.false_eq_true, List.map_nil, List.map_cons, ev_r, ev_c, rget_zero, rget_succ, Option.map_some, Option.map_none, op_mv, op_pick, op_call, op_lenL, op_lenS, op_bin, op_nt, op_bbin, op_sbin, op_iad, op_lda, op_ld, fresl, fres, tup, addr_plus, Bool.not_true, Bool.not_false, BEq.rfl, fbin_lt, decide_eq_true hlt, fidx_nat hlt, fidx_nat hlt2, h1, h2, cells_row, decide_eq_true h, h3]
  · rw [if_neg h]
    simp only [c7_1, execW_seq, execW_ops, execW_cond, execW_exit, execW_ret, execW_block, opsW_op, opsW_nil, opsW_shuf, opsW_chk, gok_none, gok_some, if_true, if_false, Bool.false_eq_true, List.map_nil, List.map_cons, ev_r, ev_c, rget_zero, rget_succ, Option.map_some, Option.map_none, op_mv, op_pick, op_call, op_lenL, op_lenS, op_bin, op_nt, op_bbin, op_sbin, op_iad, op_lda, op_ld, fresl, fres, tup, addr_plus, Bool.not_true, Bool.not_false, BEq.rfl, fbin_lt, decide_eq_true hlt, fidx_nat hlt, fidx_nat hlt2, h1, h2, cells_row, decide_eq_false h, h3]
theorem loop7 (hlen : l.length = m.length) (hn : l.length ≤ 9223372036854775807)
    (hl : ∀ i x, l[i]? = some x → σ.row? ⟨ha, oa + i * 2, none⟩ 2 = some (row x)) (hm : ∀ i x, m[i]? = some x → σ.row? ⟨hb, ob + i * 2, none⟩ 2 = some (row x)) :
    ∀ (k i : Nat), l.length - i = k → i ≤ l.length → execW Q (.loop c7_1) [.slice (some ⟨ha, oa, none⟩) l.length ca, .slice (some ⟨hb, ob, none⟩) m.length cb, .int .i64 l.length, .int .i64 i] σ =
      if l.drop i = m.drop i then some (.ex 0 [], σ) else some (.ret (.bool false), σ) := by
  intro k
  induction k with
  | zero =>
    intro i hk hi
    obtain rfl : i = l.length := by omega
    rw [List.drop_length, hlen, List.drop_length, if_pos rfl, loop_eq]
    simp only [c7_1, execW_seq, execW_ops, execW_cond, execW_exit, execW_ret, execW_block, opsW_op, opsW_nil, opsW_shuf, opsW_chk, gok_none, gok_some, if_true, if_false, Bool.false_eq_true, List.map_nil, List.map_cons, ev_r, ev_c, rget_zero, rget_succ, Option.map_some, Option.map_none, op_mv, op_pick, op_call, op_lenL, op_lenS, op_bin, op_nt, op_bbin, op_sbin, op_iad, op_lda, op_ld, fresl, fres, tup, addr_plus, Bool.not_true, Bool.not_false, BEq.rfl, fbin_lt, Nat.lt_irrefl, decide_false]
  | succ k ih =>
    intro i hk hi
    have hlt : i < l.length := by omega
    have hlt2 : i < m.length := by omega
    rw [List.drop_eq_getElem_cons hlt, List.drop_eq_getElem_cons hlt2, loop_eq, body7 hl hm hn hlt hlt2]
    by_cases h : l[i] = m[i]
    · rw [if_pos h]
      simp only
      rw [ih (i + 1) (by omega) (by omega)]
      simp only [h, List.cons.injEq, true_and]
    · rw [if_neg h]
      simp only [h, List.cons.injEq, false_and, if_false]
theorem body8 (hl : ∀ i x, l[i]? = some x → σ.row? ⟨ha, oa + i * 2, none⟩ 2 = some (row x)) (hm : ∀ i x, m[i]? = some x → σ.row? ⟨hb, ob + i * 2, none⟩ 2 = some (row x)) (hn : l.length ≤ 9223372036854775807)
    {i : Nat} (hlt : i < l.length) (hlt2 : i < m.length) : execW Q c8_1 [.slice (some ⟨ha, oa, none⟩) l.length ca, .slice (some ⟨hb, ob, none⟩) m.length cb, .int .i64 i] σ =
      if l[i] = m[i] then some (.nx [.slice (some ⟨ha, oa, none⟩) l.length ca, .slice (some ⟨hb, ob, none⟩) m.length cb, .int .i64 ((i + 1 : Nat) : Int)], σ) else some (.ret (.bool false), σ) := by
  have h1 := hl i l[i] (List.getElem?_eq_getElem hlt)
  have h2 := hm i m[i] (List.getElem?_eq_getElem hlt2)
  have h3 := fbin_inc (show i < 9223372036854775807 by omega)
  by_cases h : l[i] = m[i]
  · rw [if_pos h]
    simp only [c8_1, execW_seq, execW_ops, execW_cond, execW_exit, execW_ret, execW_block, opsW_op, opsW_nil, opsW_shuf, opsW_chk, gok_none, gok_some, if_true, if_false, Bool.false_eq_true, List.map_nil, List.map_cons, ev_r, ev_c, rget_zero, rget_succ, Option.map_some, Option.map_none, op_mv, op_pick, op_call, op_lenL, op_lenS, op_bin, op_nt, op_bbin, op_sbin, op_iad, op_lda, op_ld, fresl, fres, tup, addr_plus, Bool.not_true, Bool.not_false, BEq.rfl, fbin_lt, decide_eq_true hlt, fidx_nat hlt, fidx_nat hlt2, h1, h2, cells_row, decide_eq_true h, h3]
  · rw [if_neg h]
    simp only [c8_1, execW_seq, execW_ops, execW_cond, execW_exit, execW_ret, execW_block, opsW_op, opsW_nil, opsW_shuf, opsW_chk, gok_none, gok_some, if_true, if_false, Bool.false_eq_true, List.map_nil, List.map_cons, ev_r, ev_c, rget_zero, rget_succ, Option.map_some, Option.map_none, op_mv, op_pick, op_call, op_lenL, op_lenS, op_bin, op_nt, op_bbin, op_sbin, op_iad, op_lda, op_ld, fresl, fres, tup, addr_plus, Bool.not_true, Bool.not_false, BEq.rfl, fbin_lt, decide_eq_true hlt, fidx_nat hlt, fidx_nat hlt2, h1, h2, cells_row, decide_eq_false h, h3]
theorem loop8 (hlen : l.length = m.length) (hn : l.length ≤ 9223372036854775807)
    (hl : ∀ i x, l[i]? = some x → σ.row? ⟨ha, oa + i * 2, none⟩ 2 = some (row x)) (hm : ∀ i x, m[i]? = some x → σ.row? ⟨hb, ob + i * 2, none⟩ 2 = some (row x)) :
    ∀ (k i : Nat), l.length - i = k → i ≤ l.length → execW Q (.loop c8_1) [.slice (some ⟨ha, oa, none⟩) l.length ca, .slice (some ⟨hb, ob, none⟩) m.length cb, .int .i64 i] σ =
      if l.drop i = m.drop i then some (.ex 0 [], σ) else some (.ret (.bool false), σ) := by
  intro k
  induction k with
  | zero =>
    intro i hk hi
    obtain rfl : i = l.length := by omega
    rw [List.drop_length, hlen, List.drop_length, if_pos rfl, loop_eq]
    simp only [c8_1, execW_seq, execW_ops, execW_cond, execW_exit, execW_ret, execW_block, opsW_op, opsW_nil, opsW_shuf, opsW_chk, gok_none, gok_some, if_true, if_false, Bool.false_eq_true, List.map_nil, List.map_cons, ev_r, ev_c, rget_zero, rget_succ, Option.map_some, Option.map_none, op_mv, op_pick, op_call, op_lenL, op_lenS, op_bin, op_nt, op_bbin, op_sbin, op_iad, op_lda, op_ld, fresl, fres, tup, addr_plus, Bool.not_true, Bool.not_false, BEq.rfl, fbin_lt, hlen, Nat.lt_irrefl, decide_false]
  | succ k ih =>
    intro i hk hi
    have hlt : i < l.length := by omega
    have hlt2 : i < m.length := by omega
    rw [List.drop_eq_getElem_cons hlt, List.drop_eq_getElem_cons hlt2, loop_eq, body8 hl hm hn hlt hlt2]
    by_cases h : l[i] = m[i]
    · rw [if_pos h]
      simp only
      rw [ih (i + 1) (by omega) (by omega)]
      simp only [h, List.cons.injEq, true_and]
    · rw [if_neg h]
      simp only [h, List.cons.injEq, false_and, if_false]
end
/-- Q is the program: its functions stand in the table, none of these is a hook. -/
structure Has (Q : FP) : Prop where
  t3 : Q.tab 3 = some ⟨2, c3⟩
  t4 : Q.tab 4 = some ⟨2, c4⟩
  t5 : Q.tab 5 = some ⟨2, c5⟩
  t7 : Q.tab 7 = some ⟨2, c7⟩
  t8 : Q.tab 8 = some ⟨2, c8⟩
  h3 : Q.hooked 3 = false
  h4 : Q.hooked 4 = false
  h5 : Q.hooked 5 = false
  h7 : Q.hooked 7 = false
  h8 : Q.hooked 8 = false
section
variable {Q : FP} {σ : St} {l m : List (ByteArray × ByteArray)} {va vb : Value}
theorem tags_len (h : Tags σ va l) : ∃ a c, va = .slice a l.length c := by
  rcases h with ⟨rfl, a, c, rfl⟩ | ⟨h, o, c, rfl, _⟩
  · exact ⟨a, c, rfl⟩
  · exact ⟨_, c, rfl⟩
theorem zero7 (va vb : Value) : execW Q (.loop c7_1) [va, vb, .int .i64 ((0 : Nat) : Int), .int .i64 ((0 : Nat) : Int)] σ = some (.ex 0 [], σ) := by
  rw [loop_eq]
  simp only [c7_1, execW_seq, execW_ops, execW_cond, execW_exit, execW_ret, execW_block, opsW_op, opsW_nil, opsW_shuf, opsW_chk, gok_none, gok_some, if_true, if_false, Bool.false_eq_true, List.map_nil, List.map_cons, ev_r, ev_c, rget_zero, rget_succ, Option.map_some, Option.map_none, op_mv, op_pick, op_call, op_lenL, op_lenS, op_bin, op_nt, op_bbin, op_sbin, op_iad, op_lda, op_ld, fresl, fres, tup, addr_plus, Bool.not_true, Bool.not_false, BEq.rfl, fbin_lt, Nat.lt_irrefl, decide_false]
theorem zero8 (a : Option Addr) (c : Nat) (vb : Value) : execW Q (.loop c8_1) [.slice a 0 c, vb, .int .i64 ((0 : Nat) : Int)] σ = some (.ex 0 [], σ) := by
  rw [loop_eq]
  simp only [c8_1, execW_seq, execW_ops, execW_cond, execW_exit, execW_ret, execW_block, opsW_op, opsW_nil, opsW_shuf, opsW_chk, gok_none, gok_some, if_true, if_false, Bool.false_eq_true, List.map_nil, List.map_cons, ev_r, ev_c, rget_zero, rget_succ, Option.map_some, Option.map_none, op_mv, op_pick, op_call, op_lenL, op_lenS, op_bin, op_nt, op_bbin, op_sbin, op_iad, op_lda, op_ld, fresl, fres, tup, addr_plus, Bool.not_true, Bool.not_false, BEq.rfl, fbin_lt, Nat.lt_irrefl, decide_false]
theorem call7 (hQ : Has Q) (ha : Tags σ va l) (hb : Tags σ vb m) (hn : l.length ≤ 9223372036854775807) : callW Q 7 [va, vb] σ = some (.ret (.bool (decide (l = m))), σ) := by
  rw [callW_eq hQ.h7 hQ.t7]
  obtain ⟨a, ca, ea⟩ := tags_len ha
  obtain ⟨b, cb, eb⟩ := tags_len hb
  by_cases hlen : l.length = m.length
  · have hL : execW Q (.loop c7_1) [va, vb, .int .i64 l.length, .int .i64 ((0 : Nat) : Int)] σ = if l = m then some (.ex 0 [], σ) else some (.ret (.bool false), σ) := by
      by_cases h0 : l.length = 0
      · have e1 : l = [] := List.eq_nil_of_length_eq_zero h0
        have e2 : m = [] := List.eq_nil_of_length_eq_zero (by omega)
        rw [e1, e2, if_pos rfl]
        exact zero7 va vb
      · rcases ha with ⟨rfl, _⟩ | ⟨h1, o1, c1, rfl, hl⟩
        · exact absurd rfl h0
        rcases hb with ⟨rfl, _⟩ | ⟨h2, o2, c2, rfl, hm⟩
        · exact absurd hlen h0
        exact loop7 hlen hn hl hm l.length 0 (by omega) (by omega)
    simp only [Int.natCast_zero] at hL
    subst ea eb
    by_cases he : l = m
    · rw [if_pos he] at hL
      simp only [c7, execW_seq, execW_ops, execW_cond, execW_exit, execW_ret, execW_block, opsW_op, opsW_nil, opsW_shuf, opsW_chk, gok_none, gok_some, if_true, if_false, Bool.false_eq_true, List.map_nil, List.map_cons, ev_r, ev_c, rget_zero, rget_succ, Option.map_some, Option.map_none, op_mv, op_pick, op_call, op_lenL, op_lenS, op_bin, op_nt, op_bbin, op_sbin, op_iad, op_lda, op_ld, fresl, fres, tup, addr_plus, Bool.not_true, Bool.not_false, BEq.rfl, fbin_ne, hlen, ne_eq, not_true_eq_false, decide_false, List.length_nil, List.length_cons]
      rw [hlen] at hL
      simp only [hL, execW_seq, execW_ops, execW_cond, execW_exit, execW_ret, execW_block, opsW_op, opsW_nil, opsW_shuf, opsW_chk, gok_none, gok_some, if_true, if_false, Bool.false_eq_true, List.map_nil, List.map_cons, ev_r, ev_c, rget_zero, rget_succ, Option.map_some, Option.map_none, op_mv, op_pick, op_call, op_lenL, op_lenS, op_bin, op_nt, op_bbin, op_sbin, op_iad, op_lda, op_ld, fresl, fres, tup, addr_plus, Bool.not_true, Bool.not_false, BEq.rfl, decide_eq_true he]
    · rw [if_neg he] at hL
      simp only [c7, execW_seq, execW_ops, execW_cond, execW_exit, execW_ret, execW_block, opsW_op, opsW_nil, opsW_shuf, opsW_chk, gok_none, gok_some, if_true, if_false, Bool.false_eq_true, List.map_nil, List.map_cons, ev_r, ev_c, rget_zero, rget_succ, Option.map_some, Option.map_none, op_mv, op_pick, op_call, op_lenL, op_lenS, op_bin, op_nt, op_bbin, op_sbin, op_iad, op_lda, op_ld, fresl, fres, tup, addr_plus, Bool.not_true, Bool.not_false, BEq.rfl, fbin_ne, hlen, ne_eq, not_true_eq_false, decide_false, List.length_nil, List.length_cons]
      rw [hlen] at hL
      simp only [hL, execW_seq, execW_ops, execW_cond, execW_exit, execW_ret, execW_block, opsW_op, opsW_nil, opsW_shuf, opsW_chk, gok_none, gok_some, if_true, if_false, Bool.false_eq_true, List.map_nil, List.map_cons, ev_r, ev_c, rget_zero, rget_succ, Option.map_some, Option.map_none, op_mv, op_pick, op_call, op_lenL, op_lenS, op_bin, op_nt, op_bbin, op_sbin, op_iad, op_lda, op_ld, fresl, fres, tup, addr_plus, Bool.not_true, Bool.not_false, BEq.rfl, decide_eq_false he]
  · have he : ¬ l = m := fun e => hlen (by rw [e])
    subst ea eb
    simp only [c7, execW_seq, execW_ops, execW_cond, execW_exit, execW_ret, execW_block, opsW_op, opsW_nil, opsW_shuf, opsW_chk, gok_none, gok_some, if_true, if_false, Bool.false_eq_true, List.map_nil, List.map_cons, ev_r, ev_c, rget_zero, rget_succ, Option.map_some, Option.map_none, op_mv, op_pick, op_call, op_lenL, op_lenS, op_bin, op_nt, op_bbin, op_sbin, op_iad, op_lda, op_ld, fresl, fres, tup, addr_plus, Bool.not_true, Bool.not_false, BEq.rfl, fbin_ne, hlen, ne_eq, not_false_eq_true, decide_true, List.length_nil, List.length_cons, decide_eq_false he]
theorem call8 (hQ : Has Q) (ha : Tags σ va l) (hb : Tags σ vb m) (hn : l.length ≤ 9223372036854775807) : callW Q 8 [va, vb] σ = some (.ret (.bool (decide (l = m))), σ) := by
  rw [callW_eq hQ.h8 hQ.t8]
  obtain ⟨a, ca, ea⟩ := tags_len ha
  obtain ⟨b, cb, eb⟩ := tags_len hb
  by_cases hlen : l.length = m.length
  · have hL : execW Q (.loop c8_1) [va, vb, .int .i64 ((0 : Nat) : Int)] σ = if l = m then some (.ex 0 [], σ) else some (.ret (.bool false), σ) := by
      by_cases h0 : l.length = 0
      · have e1 : l = [] := List.eq_nil_of_length_eq_zero h0
        have e2 : m = [] := List.eq_nil_of_length_eq_zero (by omega)
        rw [ea, h0, e1, e2, if_pos rfl]
        exact zero8 a ca vb
      · rcases ha with ⟨rfl, _⟩ | ⟨h1, o1, c1, rfl, hl⟩
        · exact absurd rfl h0
        rcases hb with ⟨rfl, _⟩ | ⟨h2, o2, c2, rfl, hm⟩
        · exact absurd hlen h0
        exact loop8 hlen hn hl hm l.length 0 (by omega) (by omega)
    simp only [Int.natCast_zero] at hL
    subst ea eb
    by_cases he : l = m
    · rw [if_pos he] at hL
      simp only [c8, execW_seq, execW_ops, execW_cond, execW_exit, execW_ret, execW_block, opsW_op, opsW_nil, opsW_shuf, opsW_chk, gok_none, gok_some, if_true, if_false, Bool.false_eq_true, List.map_nil, List.map_cons, ev_r, ev_c, rget_zero, rget_succ, Option.map_some, Option.map_none, op_mv, op_pick, op_call, op_lenL, op_lenS, op_bin, op_nt, op_bbin, op_sbin, op_iad, op_lda, op_ld, fresl, fres, tup, addr_plus, Bool.not_true, Bool.not_false, BEq.rfl, fbin_ne, hlen, ne_eq, not_true_eq_false, decide_false, List.length_nil, List.length_cons]
      rw [hlen] at hL
      simp only [hL, execW_seq, execW_ops, execW_cond, execW_exit, execW_ret, execW_block, opsW_op, opsW_nil, opsW_shuf, opsW_chk, gok_none, gok_some, if_true, if_false, Bool.false_eq_true, List.map_nil, List.map_cons, ev_r, ev_c, rget_zero, rget_succ, Option.map_some, Option.map_none, op_mv, op_pick, op_call, op_lenL, op_lenS, op_bin, op_nt, op_bbin, op_sbin, op_iad, op_lda, op_ld, fresl, fres, tup, addr_plus, Bool.not_true, Bool.not_false, BEq.rfl, decide_eq_true he]
    · rw [if_neg he] at hL
      simp only [c8, execW_seq, execW_ops, execW_cond, execW_exit, execW_ret, execW_block, opsW_op, opsW_nil, opsW_shuf, opsW_chk, gok_none, gok_some, if_true, if_false, Bool.false_eq_true, List.map_nil, List.map_cons, ev_r, ev_c, rget_zero, rget_succ, Option.map_some, Option.map_none, op_mv, op_pick, op_call, op_lenL, op_lenS, op_bin, op_nt, op_bbin, op_sbin, op_iad, op_lda, op_ld, fresl, fres, tup, addr_plus, Bool.not_true, Bool.not_false, BEq.rfl, fbin_ne, hlen, ne_eq, not_true_eq_false, decide_false, List.length_nil, List.length_cons]
      rw [hlen] at hL
      simp only [hL, execW_seq, execW_ops, execW_cond, execW_exit, execW_ret, execW_block, opsW_op, opsW_nil, opsW_shuf, opsW_chk, gok_none, gok_some, if_true, if_false, Bool.false_eq_true, List.map_nil, List.map_cons, ev_r, ev_c, rget_zero, rget_succ, Option.map_some, Option.map_none, op_mv, op_pick, op_call, op_lenL, op_lenS, op_bin, op_nt, op_bbin, op_sbin, op_iad, op_lda, op_ld, fresl, fres, tup, addr_plus, Bool.not_true, Bool.not_false, BEq.rfl, decide_eq_false he]
  · have he : ¬ l = m := fun e => hlen (by rw [e])
    subst ea eb
    simp only [c8, execW_seq, execW_ops, execW_cond, execW_exit, execW_ret, execW_block, opsW_op, opsW_nil, opsW_shuf, opsW_chk, gok_none, gok_some, if_true, if_false, Bool.false_eq_true, List.map_nil, List.map_cons, ev_r, ev_c, rget_zero, rget_succ, Option.map_some, Option.map_none, op_mv, op_pick, op_call, op_lenL, op_lenS, op_bin, op_nt, op_bbin, op_sbin, op_iad, op_lda, op_ld, fresl, fres, tup, addr_plus, Bool.not_true, Bool.not_false, BEq.rfl, fbin_ne, hlen, ne_eq, not_false_eq_true, decide_true, List.length_nil, List.length_cons, decide_eq_false he]
theorem call4 (hQ : Has Q) (ha : Tags σ va l) (hb : Tags σ vb m) (hn : l.length ≤ 9223372036854775807) : callW Q 4 [va, vb] σ = some (.ret (.bool (decide (l = m))), σ) := by
  rw [callW_eq hQ.h4 hQ.t4]
  simp only [c4, execW_seq, execW_ops, execW_cond, execW_exit, execW_ret, execW_block, opsW_op, opsW_nil, opsW_shuf, opsW_chk, gok_none, gok_some, if_true, if_false, Bool.false_eq_true, List.map_nil, List.map_cons, ev_r, ev_c, rget_zero, rget_succ, Option.map_some, Option.map_none, op_mv, op_pick, op_call, op_lenL, op_lenS, op_bin, op_nt, op_bbin, op_sbin, op_iad, op_lda, op_ld, fresl, fres, tup, addr_plus, Bool.not_true, Bool.not_false, BEq.rfl, call7 hQ ha hb hn, List.length_nil, List.length_cons]
theorem call5 (hQ : Has Q) (ha : Tags σ va l) (hb : Tags σ vb m) (hn : l.length ≤ 9223372036854775807) : callW Q 5 [va, vb] σ = some (.ret (.bool (decide (l = m))), σ) := by
  rw [callW_eq hQ.h5 hQ.t5]
  simp only [c5, execW_seq, execW_ops, execW_cond, execW_exit, execW_ret, execW_block, opsW_op, opsW_nil, opsW_shuf, opsW_chk, gok_none, gok_some, if_true, if_false, Bool.false_eq_true, List.map_nil, List.map_cons, ev_r, ev_c, rget_zero, rget_succ, Option.map_some, Option.map_none, op_mv, op_pick, op_call, op_lenL, op_lenS, op_bin, op_nt, op_bbin, op_sbin, op_iad, op_lda, op_ld, fresl, fres, tup, addr_plus, Bool.not_true, Bool.not_false, BEq.rfl, call8 hQ ha hb hn, List.length_nil, List.length_cons]
/-- The law, if it is awake. -/
theorem call3 (hQ : Has Q) (ha : Tags σ va l) (hb : Tags σ vb m) (hn : l.length ≤ 9223372036854775807) {σ1 : St} (h6 : callW Q 6 [] σ = some (.ret (.bool true), σ1)) : callW Q 3 [va, vb] σ = some (.ret (.bool true), σ1) := by
  rw [callW_eq hQ.h3 hQ.t3]
  simp only [c3, execW_seq, execW_ops, execW_cond, execW_exit, execW_ret, execW_block, opsW_op, opsW_nil, opsW_shuf, opsW_chk, gok_none, gok_some, if_true, if_false, Bool.false_eq_true, List.map_nil, List.map_cons, ev_r, ev_c, rget_zero, rget_succ, Option.map_some, Option.map_none, op_mv, op_pick, op_call, op_lenL, op_lenS, op_bin, op_nt, op_bbin, op_sbin, op_iad, op_lda, op_ld, fresl, fres, tup, addr_plus, Bool.not_true, Bool.not_false, BEq.rfl, call4 hQ ha hb hn, call4 hQ ha ha hn, call5 hQ ha hb hn, decide_true, beq_self_eq_true, h6, List.length_nil, List.length_cons]
end
end Go.AM.Fld
namespace Go.AM.Fld
open Go Go.AM Go.Proofs

/-! The law's functions, the awakening a hook. -/
def ltab : FT := .node 5 ⟨2, c5⟩ (.node 4 ⟨2, c4⟩ (.node 3 ⟨2, c3⟩ .leaf .leaf) .leaf) (.node 8 ⟨2, c8⟩ (.node 7 ⟨2, c7⟩ .leaf .leaf) .leaf)
def lhook (f : FuncId) (args : List Value) (σ : St) : AOut := match args with
  | [] => some (.ret (.bool true), σ)
  | _ => none
abbrev lhooked (f : FuncId) : Bool := Nat.beq f 6
def lgl (g : Nat) : Option Nat := none
def LG : Cfg := cfgOf lgl ltab lhooked lhook
noncomputable def LQ : FP := fpOf Tryz.prog lgl ltab lhooked lhook

def s3 : Sk := (.seq .leaf (.seq .leaf .leaf))
def s4 : Sk := (.seq .leaf (.seq .leaf .leaf))
def s5 : Sk := (.seq .leaf (.seq .leaf .leaf))
def s7 : Sk := (.seq .leaf (.seq (.seq .leaf (.cond [0, 1] (.seq .leaf .leaf) .leaf)) (.seq (.seq .leaf (.block [] (.loop [0, 1, 12, 13] (.seq .leaf (.seq (.cond [0, 1, 12, 13] .leaf .leaf) (.seq (.block [0, 1, 12, 13] (.seq .leaf (.seq .leaf (.cond [0, 1, 12, 13] (.seq .leaf .leaf) .leaf)))) .leaf)))))) (.seq .leaf .leaf))))
def s8 : Sk := (.seq .leaf (.seq (.seq .leaf (.cond [0, 1] (.seq .leaf .leaf) .leaf)) (.seq (.seq .leaf (.block [] (.loop [0, 1, 5] (.seq (.seq .leaf (.cond [0, 1, 5] .leaf .leaf)) (.seq (.block [0, 1, 5] (.seq .leaf (.cond [0, 1, 5] (.seq .leaf .leaf) .leaf))) .leaf))))) (.seq .leaf .leaf))))
theorem good3 : Good Tryz.prog LG 3 ⟨2, c3⟩ := ⟨Tryz.f3, s3, Tryz.func3, by kernel_rfl, by kernel_rfl⟩
theorem good4 : Good Tryz.prog LG 4 ⟨2, c4⟩ := ⟨Tryz.f4, s4, Tryz.func4, by kernel_rfl, by kernel_rfl⟩
theorem good5 : Good Tryz.prog LG 5 ⟨2, c5⟩ := ⟨Tryz.f5, s5, Tryz.func5, by kernel_rfl, by kernel_rfl⟩
theorem good7 : Good Tryz.prog LG 7 ⟨2, c7⟩ := ⟨Tryz.f7, s7, Tryz.func7, by kernel_rfl, by kernel_rfl⟩
theorem good8 : Good Tryz.prog LG 8 ⟨2, c8⟩ := ⟨Tryz.f8, s8, Tryz.func8, by kernel_rfl, by kernel_rfl⟩
theorem has : Has LQ := ⟨rfl, rfl, rfl, rfl, rfl, rfl, rfl, rfl, rfl, rfl⟩

/-- The law is awake. -/
def Awake : Prop := ∀ w : World, Calls Tryz.prog 6 #[] w fun e w1 => e = .returned (.bool true) ∧ RowKit.Below w.heap.size w w1

theorem lhooks (hA : Awake) : HookSound Tryz.prog LG := by
  intro f args σ e σ1 h φ w args' hr hg ha
  simp only at h
  split at h
  case isFalse => cases h
  rename_i hh
  obtain rfl : f = 6 := Nat.eq_of_beq_eq_true hh
  simp only [LG, cfgOf, lhook] at h
  split at h
  case h_2 => cases h
  injection h with h
  injection h with h1 h2
  subst h1 h2
  have : args' = #[] := by
    have := ha.length
    exact Array.eq_empty_of_size_eq_zero (by simpa using this.symm)
  subst this
  exact hook_below hr (.bool true) (hA w)
theorem fine (hA : Awake) : Fine LQ LG := fine_of (by kernel_rfl) (by kernel_rfl) ⟨good5, ⟨good4, ⟨good3, trivial, trivial⟩, trivial⟩, ⟨good8, ⟨good7, trivial, trivial⟩, trivial⟩⟩ (lhooks hA)
end Go.AM.Fld

/- Boards and rows as lists of whole numbers, however they are spelled: loads, stores, comparison. -/
import Derived.Test.YtgkfhppmopmgjaaBd
import Derived.Test.YtgkfhppmopmgjaaWhole
import Derived.Test.YtgkfhppmopmgjaaPure2
import Derived.DeepKeys
import Derived.Laws.StructEq
set_option linter.all false
namespace Go.Proofs.Ytgkfhppmopmgjaa
open Go.RowKit Pl

theorem size_cellsB (b : List Int) : (cellsB b).size = b.length := by simp [cellsB]
theorem one_cellsB (b : List Int) : (cellsB b).all (·.oneCell') = true := by simp [cellsB, Value.oneCell']

section
variable {P : Program} {ops : Array Oper} {rest : List Oper} {a : Act} {w w2 : World} {Q : Exit → Act → World → Prop} {dst : Option Tmp} {type : TypeId} {pos : String} {after : Array Edge} {ty : TypeId} {x y : Operand}
theorem loadB {g : Nat} {t : TypeId} {b : List Int} {fr : Nat × Nat} {d : TypeDesc} {n : Nat} (hu : P.underlying ty = some d) (hx : a.eval x = .pointer (some ⟨g, 0, none⟩)) (hg : w.heap[g]? = some (.cells (cellsB b) t fr))
    (hd : (match d with | .struct _ | .array _ _ => true | _ => false) = true) (hi : (P.info? ty).map (·.size) = some n) (hb : b.length = n)
    (h : wpList P ops Q rest (a.put dst (aggB b)) w) : wpList P ops Q (⟨dst, .load ty x, type, pos, after, none⟩ :: rest) a w :=
  loadW hu hx hg hd (by rw [size_cellsB, hb, hi]) h
theorem storeB {g : Nat} {t : TypeId} {b : List Int} {old : Array Value} {n : Nat} (hx : a.eval x = .pointer (some ⟨g, 0, none⟩)) (hy : a.eval y = aggB b) (hg : w.heap[g]? = some (.cells old t (0, 0))) (hi : (P.info? ty).map (·.size) = some n)
    (hold : old.size = n) (hb : b.length = n) (hw : w.setRow g (cellsB b) = w2)
    (h : wpList P ops Q rest (a.put dst undef) w2) : wpList P ops Q (⟨dst, .store ty x y, type, pos, after, none⟩ :: rest) a w :=
  storeW hx hy hg (by rw [size_cellsB, hb, hi]) (by rw [size_cellsB, hb, hold]) (one_cellsB b) hw h
end

def wfL (b : List Int) : Prop := ∀ x ∈ b, (Lit.int .i64 x).wf = true
theorem wf_i64 {x : Int} (h : -9223372036854775808 ≤ x ∧ x ≤ 9223372036854775807) : (Lit.int .i64 x).wf = true := by
  simp only [Lit.wf, IntKind.min, IntKind.max, IntKind.signed, IntKind.bits, Bool.and_eq_true, decide_eq_true_eq, if_true]
  omega
theorem wfL_ok {b : List Int} (h : okL b) : wfL b := fun x hx => wf_i64 (by have := h x hx; omega)
theorem lits_int (d : Nat) (n : Int) (h : (Lit.int .i64 n).wf = true) : Try.prog.keyLits (d + 1) 3 [.int .i64 n] = some [.int .i64 n] := by
  simp [Program.keyLits, Try.underlying3, h]
theorem loadQB {P : Program} {ops : Array Oper} {rest : List Oper} {C : World → Prop} {Q : Act → Prop} {a : Act} {dst : Option Tmp} {type : TypeId} {pos : String} {after : Array Edge} {ty : TypeId} {x : Operand}
    {g : Nat} {t : TypeId} {b : List Int} {fr : Nat × Nat} {d : TypeDesc} {n : Nat} (hu : P.underlying ty = some d) (hx : a.eval x = .pointer (some ⟨g, 0, none⟩)) (hg : ∀ w, C w → w.heap[g]? = some (.cells (cellsB b) t fr))
    (hd : (match d with | .struct _ | .array _ _ => true | _ => false) = true) (hi : (P.info? ty).map (·.size) = some n) (hb : b.length = n)
    (h : wpQuiet P ops C Q rest (a.put dst (aggB b))) : wpQuiet P ops C Q (⟨dst, .load ty x, type, pos, after, none⟩ :: rest) a :=
  loadQ hu hx hg hd (by rw [size_cellsB, hb, hi]) h
theorem keyLits_arr {P : Program} {d n : Nat} {t e : TypeId} {cs : List Value} (hu : P.underlying t = some (.array n e)) (hl : cs.length = P.cellsOf t) :
    P.keyLits (d + 1) t cs = ((List.range n).mapM fun i => P.keyLits d e ((cs.drop (i * P.cellsOf e)).take (P.cellsOf e))).map List.flatten := by
  conv => lhs; unfold Program.keyLits
  simp only [hu]
  rw [if_pos hl]
theorem keyLits_str {P : Program} {d : Nat} {t : TypeId} {fs : Array Field} {cs : List Value} (hu : P.underlying t = some (.struct fs)) (hl : cs.length = P.cellsOf t) (hf : fs.all (·.name != "_") = true) :
    P.keyLits (d + 1) t cs = (fs.toList.mapM fun f => P.keyLits d f.type ((cs.drop f.offset).take (P.cellsOf f.type))).map List.flatten := by
  conv => lhs; unfold Program.keyLits
  simp only [hu]
  rw [if_pos ⟨hl, hf⟩]
theorem lits_row4 (d : Nat) (x0 x1 x2 x3 : Int) (h0 : (Lit.int .i64 x0).wf = true) (h1 : (Lit.int .i64 x1).wf = true) (h2 : (Lit.int .i64 x2).wf = true) (h3 : (Lit.int .i64 x3).wf = true) :
    Try.prog.keyLits (d + 2) 22 [.int .i64 x0, .int .i64 x1, .int .i64 x2, .int .i64 x3] = some [.int .i64 x0, .int .i64 x1, .int .i64 x2, .int .i64 x3] := by
  have c3 : Try.prog.cellsOf 3 = 1 := by kernel_rfl
  have c24 : Try.prog.cellsOf 22 = 4 := by kernel_rfl
  rw [keyLits_arr Try.underlying22 (by rw [c24]; rfl)]
  simp only [c3]
  simp [List.range, List.range.loop, lits_int, h0, h1, h2, h3]
theorem lits_row (b : List Int) (hb : b.length = 4) (hw : wfL b) : Try.prog.keyLits 6 22 (cellsB b).toList = some (b.map (Lit.int .i64)) := by
  obtain ⟨x0, x1, x2, x3, rfl⟩ := len4 b hb
  have h : ∀ x ∈ [x0, x1, x2, x3], (Lit.int .i64 x).wf = true := hw
  simp only [List.mem_cons, List.not_mem_nil, or_false, forall_eq_or_imp, forall_eq] at h
  exact lits_row4 4 x0 x1 x2 x3 h.1 h.2.1 h.2.2.1 h.2.2.2
theorem lits_board (b : List Int) (hb : b.length = 16) (hw : wfL b) : Try.prog.keyLits 6 28 (cellsB b).toList = some (b.map (Lit.int .i64)) := by
  obtain ⟨x0, x1, x2, x3, x4, x5, x6, x7, x8, x9, x10, x11, x12, x13, x14, x15, rfl⟩ := len16 b hb
  have h : ∀ x ∈ [x0, x1, x2, x3, x4, x5, x6, x7, x8, x9, x10, x11, x12, x13, x14, x15], (Lit.int .i64 x).wf = true := hw
  simp only [List.mem_cons, List.not_mem_nil, or_false, forall_eq_or_imp, forall_eq] at h
  obtain ⟨h0, h1, h2, h3, h4, h5, h6, h7, h8, h9, h10, h11, h12, h13, h14, h15⟩ := h
  have c24 : Try.prog.cellsOf 22 = 4 := by kernel_rfl
  have c25 : Try.prog.cellsOf 23 = 16 := by kernel_rfl
  have c27 : Try.prog.cellsOf 28 = 16 := by kernel_rfl
  have k25 : Try.prog.keyLits 5 23 (cellsB [x0, x1, x2, x3, x4, x5, x6, x7, x8, x9, x10, x11, x12, x13, x14, x15]).toList = some ([x0, x1, x2, x3, x4, x5, x6, x7, x8, x9, x10, x11, x12, x13, x14, x15].map (Lit.int .i64)) := by
    rw [keyLits_arr Try.underlying23 (by rw [c25]; rfl)]
    simp only [c24]
    simp [cellsB, List.range, List.range.loop, lits_row4, *]
  rw [keyLits_str Try.underlying28 (by rw [c27]; rfl) (by kernel_rfl)]
  simp only [List.mapM_cons, List.mapM_nil, c25]
  have h16 : ((cellsB [x0, x1, x2, x3, x4, x5, x6, x7, x8, x9, x10, x11, x12, x13, x14, x15]).toList.drop 0).take 16 = (cellsB [x0, x1, x2, x3, x4, x5, x6, x7, x8, x9, x10, x11, x12, x13, x14, x15]).toList := rfl
  rw [h16, k25]
  simp
theorem map_lit_inj {a b : List Int} : a.map (Lit.int .i64) = b.map (Lit.int .i64) ↔ a = b := by
  constructor
  · intro h
    induction a generalizing b with
    | nil => cases b <;> simp_all
    | cons x a ih => cases b with
      | nil => simp at h
      | cons y b => simp at h; obtain ⟨rfl, h⟩ := h; rw [ih (by simpa using h)]
  · rintro rfl; rfl
theorem eq_board (a b : List Int) (ha : a.length = 16) (hb : b.length = 16) (wa : wfL a) (wb : wfL b) (w : World) : (Op.equalIn 10000 28 (aggB a) (aggB b)).run Try.prog w = .ok (a == b) w := by
  rw [show (10000 : Nat) = 9990 + 10 from rfl]
  generalize 9990 = dd
  obtain ⟨r, hr, hiff⟩ := run_equalIn_deep (P := Try.prog) dd 10 28 (by kernel_rfl) w 6 6 (aggB a) (aggB b) _ _
    (by unfold Value.formed; simp only [Try.underlying28, size_cellsB, ha]; kernel_rfl) (by unfold Value.formed; simp only [Try.underlying28, size_cellsB, hb]; kernel_rfl) (lits_board a ha wa) (lits_board b hb wb)
  rw [map_lit_inj] at hiff
  have hab : r = (a == b) := by
    clear hr
    by_cases h : a = b
    · rw [hiff.2 h]; simp [h]
    · have h2 : (a == b) = false := by simpa using h
      rw [h2]
      cases r with
      | false => rfl
      | true => exact absurd (hiff.1 rfl) h
  rw [hr, hab]
theorem eq_row (a b : List Int) (ha : a.length = 4) (hb : b.length = 4) (wa : wfL a) (wb : wfL b) (w : World) : (Op.equalIn 10000 22 (aggB a) (aggB b)).run Try.prog w = .ok (a == b) w := by
  rw [show (10000 : Nat) = 9990 + 10 from rfl]
  generalize 9990 = dd
  obtain ⟨r, hr, hiff⟩ := run_equalIn_deep (P := Try.prog) dd 10 22 (by kernel_rfl) w 6 6 (aggB a) (aggB b) _ _
    (by unfold Value.formed; simp only [Try.underlying22, size_cellsB, ha]; kernel_rfl) (by unfold Value.formed; simp only [Try.underlying22, size_cellsB, hb]; kernel_rfl) (lits_row a ha wa) (lits_row b hb wb)
  rw [map_lit_inj] at hiff
  have hab : r = (a == b) := by
    clear hr
    by_cases h : a = b
    · rw [hiff.2 h]; simp [h]
    · have h2 : (a == b) = false := by simpa using h
      rw [h2]
      cases r with
      | false => rfl
      | true => exact absurd (hiff.1 rfl) h
  rw [hr, hab]
theorem eql_board (a b : List Int) (ha : a.length = 16) (hb : b.length = 16) (wa : wfL a) (wb : wfL b) (w : World) : (binOp .eql 28 (aggB a) (aggB b)).run Try.prog w = .ok (.bool (a == b)) w := by
  rw [run_eql_struct, eq_board a b ha hb wa wb]; rfl
theorem neq_board (a b : List Int) (ha : a.length = 16) (hb : b.length = 16) (wa : wfL a) (wb : wfL b) (w : World) : (binOp .neq 28 (aggB a) (aggB b)).run Try.prog w = .ok (.bool (a != b)) w := by
  rw [run_neq_struct, eq_board a b ha hb wa wb]; rfl
theorem eql_row (a b : List Int) (ha : a.length = 4) (hb : b.length = 4) (wa : wfL a) (wb : wfL b) (w : World) : (binOp .eql 22 (aggB a) (aggB b)).run Try.prog w = .ok (.bool (a == b)) w := by
  rw [run_eql_struct, eq_row a b ha hb wa wb]; rfl
theorem neq_row (a b : List Int) (ha : a.length = 4) (hb : b.length = 4) (wa : wfL a) (wb : wfL b) (w : World) : (binOp .neq 22 (aggB a) (aggB b)).run Try.prog w = .ok (.bool (a != b)) w := by
  rw [run_neq_struct, eq_row a b ha hb wa wb]; rfl
@[go_sem] theorem guard_board (op : BinOp) (x y : Operand) (xs ys : Array Value) (w : World) : (eqGuard op 28 x y (.agg xs) (.agg ys)).run Try.prog w = .ok () w := run_eqGuard_agg w op 28 x y xs ys (by kernel_rfl)
@[go_sem] theorem guard_row (op : BinOp) (x y : Operand) (xs ys : Array Value) (w : World) : (eqGuard op 22 x y (.agg xs) (.agg ys)).run Try.prog w = .ok () w := run_eqGuard_agg w op 22 x y xs ys (by kernel_rfl)
end Go.Proofs.Ytgkfhppmopmgjaa

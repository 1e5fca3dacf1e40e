/- Whole arrays: read, written and handed back at one stroke. -/
import Derived.Test.YtgkfhppmopmgjaaJunk
import Derived.Laws.Rows
import Derived.WalkKit
import Derived.BigQuiet
import Derived.Deep.MidRow
set_option linter.all false
namespace Go.Proofs.Ytgkfhppmopmgjaa
open Go.RowKit

theorem heap_new {w : World} {o : Obj} {n : Nat} (h : n = w.heap.size) : (w.alloc o).heap[n]? = some o := by subst h; exact heap_alloc_new w o
theorem heap_old {w : World} {o : Obj} {n : Nat} {r : Option Obj} (h : n < w.heap.size) (h2 : w.heap[n]? = r) : (w.alloc o).heap[n]? = r := by rw [heap_alloc_old w o h]; exact h2
theorem heap_junk {W : World} {d n : Nat} {os : Array Obj} {r : Option Obj} (h : n < W.heap.size) (h2 : W.heap[n]? = r) : (junk W d os).heap[n]? = r := by rw [(below_junk W d os).block n h]; exact h2

theorem setRow_new {w : World} {n : Nat} {e : TypeId} {f : Nat × Nat} {old cs : Array Value} (h : n = w.heap.size) : (w.alloc (.cells old e f)).setRow n cs = w.alloc (.cells cs e f) := by
  subst h
  simp only [World.setRow, World.alloc]
  congr 1
  apply Array.ext_getElem?
  intro k
  simp only [Array.getElem?_modify, Array.getElem?_push]
  by_cases hk : w.heap.size = k
  · subst hk; simp
  · rw [if_neg hk]
    by_cases h2 : k = w.heap.size
    · exact absurd h2.symm hk
    · rw [if_neg h2, if_neg h2]
theorem setRow_old {w : World} {n : Nat} {o : Obj} {cs : Array Value} (h : n < w.heap.size) : (w.alloc o).setRow n cs = (w.setRow n cs).alloc o := by
  simp only [World.setRow, World.alloc]
  congr 1
  apply Array.ext_getElem?
  intro k
  simp only [Array.getElem?_modify, Array.getElem?_push, Array.size_modify]
  by_cases hk : n = k
  · subst hk; rw [if_pos rfl, if_neg (by omega), if_neg (by omega), if_pos rfl]
  · rw [if_neg hk]
    by_cases h2 : k = w.heap.size
    · rw [if_pos h2, if_pos h2]
    · rw [if_neg h2, if_neg h2, if_neg hk]
theorem setRow_junk {W : World} {d n : Nat} {os : Array Obj} {cs : Array Value} (h : n < W.heap.size) : (junk W d os).setRow n cs = junk (W.setRow n cs) d os := by
  simp only [World.setRow, junk]
  congr 1
  apply Array.ext_getElem?
  intro k
  simp only [Array.getElem?_modify, Array.getElem?_append, Array.size_modify]
  by_cases hk : n = k
  · subst hk; rw [if_pos rfl, if_pos h, if_pos h, if_pos rfl]
  · rw [if_neg hk]
    by_cases hs : k < W.heap.size
    · rw [if_pos hs, if_pos hs, if_neg hk]
    · rw [if_neg hs, if_neg hs]
theorem setRow_old' {w w2 : World} {n : Nat} {o : Obj} {cs : Array Value} (h : n < w.heap.size) (h2 : w.setRow n cs = w2) : (w.alloc o).setRow n cs = w2.alloc o := by rw [setRow_old h, h2]
theorem setRow_junk' {W W2 : World} {d n : Nat} {os : Array Obj} {cs : Array Value} (h : n < W.heap.size) (h2 : W.setRow n cs = W2) : (junk W d os).setRow n cs = junk W2 d os := by rw [setRow_junk h, h2]
@[go_sem] theorem size_setRow (w : World) (n : Nat) (cs : Array Value) : (w.setRow n cs).heap.size = w.heap.size := by simp [World.setRow]

/-- A store of a whole array, the world behind it as it is then spelled. -/
theorem wpList_storeW {P : Program} {ops : Array Oper} {rest : List Oper} {o : Oper} {a : Act} {w w2 : World} {Q : Exit → Act → World → Prop} (hgd : o.guard = none) (ty : TypeId) (x y : Operand) (ho : o.op = .store ty x y)
    (g : Nat) (cells : Array Value) (hx : a.eval x = .pointer (some ⟨g, 0, none⟩)) (hy : a.eval y = .agg cells)
    (t : TypeId) (old : Array Value) (hg : w.heap[g]? = some (.cells old t (0, 0))) (hi : (P.info? ty).map (·.size) = some cells.size)
    (hold : old.size = cells.size) (h1 : cells.all (·.oneCell') = true) (hw : w.setRow g cells = w2)
    (h : wpList P ops Q rest (a.put o.dst undef) w2) : wpList P ops Q (o :: rest) a w := by
  subst hw
  exact wpList_store_row hgd ty x y ho g cells hx hy t old hg hi hold h1 h

theorem loadW {P : Program} {ops : Array Oper} {rest : List Oper} {a : Act} {w : World} {Q : Exit → Act → World → Prop} {dst : Option Tmp} {type : TypeId} {pos : String} {after : Array Edge} {ty : TypeId} {x : Operand}
    {g : Nat} {t : TypeId} {cs : Array Value} {fr : Nat × Nat} {d : TypeDesc} (hu : P.underlying ty = some d) (hx : a.eval x = .pointer (some ⟨g, 0, none⟩)) (hg : w.heap[g]? = some (.cells cs t fr))
    (hd : (match d with | .struct _ | .array _ _ => true | _ => false) = true) (hi : (P.info? ty).map (·.size) = some cs.size)
    (h : wpList P ops Q rest (a.put dst (.agg cs)) w) : wpList P ops Q (⟨dst, .load ty x, type, pos, after, none⟩ :: rest) a w :=
  wpList_load_row rfl ty x rfl g hx t cs fr d hg hu hd hi h
theorem storeW {P : Program} {ops : Array Oper} {rest : List Oper} {a : Act} {w w2 : World} {Q : Exit → Act → World → Prop} {dst : Option Tmp} {type : TypeId} {pos : String} {after : Array Edge} {ty : TypeId} {x y : Operand}
    {g : Nat} {t : TypeId} {cells old : Array Value} (hx : a.eval x = .pointer (some ⟨g, 0, none⟩)) (hy : a.eval y = .agg cells) (hg : w.heap[g]? = some (.cells old t (0, 0))) (hi : (P.info? ty).map (·.size) = some cells.size)
    (hold : old.size = cells.size) (h1 : cells.all (·.oneCell') = true) (hw : w.setRow g cells = w2)
    (h : wpList P ops Q rest (a.put dst undef) w2) : wpList P ops Q (⟨dst, .store ty x y, type, pos, after, none⟩ :: rest) a w :=
  wpList_storeW rfl ty x y rfl g cells hx hy t old hg hi hold h1 hw h

theorem loadQ {P : Program} {ops : Array Oper} {rest : List Oper} {C : World → Prop} {Q : Act → Prop} {a : Act} {dst : Option Tmp} {type : TypeId} {pos : String} {after : Array Edge} {ty : TypeId} {x : Operand}
    {g : Nat} {t : TypeId} {cs : Array Value} {fr : Nat × Nat} {d : TypeDesc} (hu : P.underlying ty = some d) (hx : a.eval x = .pointer (some ⟨g, 0, none⟩)) (hg : ∀ w, C w → w.heap[g]? = some (.cells cs t fr))
    (hd : (match d with | .struct _ | .array _ _ => true | _ => false) = true) (hi : (P.info? ty).map (·.size) = some cs.size)
    (h : wpQuiet P ops C Q rest (a.put dst (.agg cs))) : wpQuiet P ops C Q (⟨dst, .load ty x, type, pos, after, none⟩ :: rest) a := by
  refine BigFrame.wpQuiet_want rfl fun K hK => ⟨.agg cs, fun w hw => ?_, hK _ h⟩
  unfold Oper.quietAt execOp
  simp only [hx, Instr.loadAt, Instr.sureAddr, Sem.run_bind, Sem.run_pure, Result.andThen_ok, run_loadVar_row w g t ty cs fr d (hg w hw) hu hd hi]
  exact ⟨rfl, rfl⟩

theorem loadQm {P : Program} {ops : Array Oper} {rest : List Oper} {C : World → Prop} {Q : Act → Prop} {a : Act} {dst : Option Tmp} {type : TypeId} {pos : String} {after : Array Edge} {ty : TypeId} {x : Operand}
    {g o : Nat} {t : TypeId} {cs0 : Array Value} {cs : List Value} {fr : Nat × Nat} {d : TypeDesc} (hu : P.underlying ty = some d) (hx : a.eval x = .pointer (some ⟨g, o, none⟩)) (hg : ∀ w, C w → w.heap[g]? = some (.cells cs0 t fr))
    (hcs : ∀ j v, cs[j]? = some v → cs0[o + j]? = some v)
    (hd : d.isRow = true) (hi : (P.info? ty).map (·.size) = some cs.length)
    (h : wpQuiet P ops C Q rest (a.put dst (.agg cs.toArray))) : wpQuiet P ops C Q (⟨dst, .load ty x, type, pos, after, none⟩ :: rest) a := by
  refine BigFrame.wpQuiet_want rfl fun K hK => ⟨.agg cs.toArray, fun w hw => ?_, hK _ h⟩
  have hr : w.rangeAt g o cs := fun j v hv => by rw [cell_of_row w g (o + j) cs0 t fr (hg w hw)]; exact hcs j v hv
  unfold Oper.quietAt execOp
  simp only [hx, Instr.loadAt, Instr.sureAddr, Sem.run_bind, Sem.run_pure, Result.andThen_ok, run_loadVar_mid w g o ty cs d hr hu hd hi]
  exact ⟨rfl, rfl⟩

theorem loadQ1 {P : Program} {ops : Array Oper} {rest : List Oper} {C : World → Prop} {Q : Act → Prop} {a : Act} {dst : Option Tmp} {type : TypeId} {pos : String} {after : Array Edge} {ty : TypeId} {x : Operand}
    {g o : Nat} {t : TypeId} {cs : Array Value} {v : Value} {fr : Nat × Nat} {d : TypeDesc} (hu : P.underlying ty = some d) (hx : a.eval x = .pointer (some ⟨g, o, none⟩)) (hg : ∀ w, C w → w.heap[g]? = some (.cells cs t fr))
    (hcs : cs[o]? = some v) (hd : d.isRow = false)
    (h : wpQuiet P ops C Q rest (a.put dst v)) : wpQuiet P ops C Q (⟨dst, .load ty x, type, pos, after, none⟩ :: rest) a := by
  refine BigFrame.wpQuiet_want rfl fun K hK => ⟨v, fun w hw => ?_, hK _ h⟩
  have hr : w.cell? ⟨g, o, none⟩ = some v := by rw [cell_of_row w g o cs t fr (hg w hw)]; exact hcs
  have hagg : (isAgg ty).run P w = .ok false w := by
    unfold isAgg
    rw [Sem.run_bind, run_underlying hu w]
    cases d <;> simp_all
  unfold Oper.quietAt execOp
  simp only [hx, Instr.loadAt, Instr.sureAddr, Sem.run_bind, Sem.run_pure, Result.andThen_ok, loadVar, hagg]
  simp [hr, go_sem, Oper.quietUpon]

section
variable {P : Program} {fn : Func} {p p2 u u2 : Tmp} {ty ty2 t t2 : TypeId} {tmps : Array Value} {w : World} {g g2 : Nat} {cs cs2 : Array Value} {fr fr2 : Nat × Nat} {d d2 : TypeDesc}
theorem ret_c (h : fn.results = #[.cell p ty]) (hp : tmps.getD p undef = .pointer (some ⟨g, 0, none⟩)) (hg : w.heap[g]? = some (.cells cs t fr))
    (hu : P.underlying ty = some d) (hd : (match d with | .struct _ | .array _ _ => true | _ => false) = true) (hi : (P.info? ty).map (·.size) = some cs.size) :
    (results fn tmps).run P w = .ok (.agg cs) w := results_cell_row h tmps w g t cs fr d hp hg hu hd hi
theorem ret_ct (h : fn.results = #[.cell p ty, .tmp u]) (hp : tmps.getD p undef = .pointer (some ⟨g, 0, none⟩)) (hg : w.heap[g]? = some (.cells cs t fr))
    (hu : P.underlying ty = some d) (hd : (match d with | .struct _ | .array _ _ => true | _ => false) = true) (hi : (P.info? ty).map (·.size) = some cs.size) :
    (results fn tmps).run P w = .ok (.tuple #[.agg cs, tmps.getD u undef]) w := by
  have hp' : tmps[p]?.getD undef = .pointer (some ⟨g, 0, none⟩) := by simpa using hp
  simp [results, h, hp', asAddr, run_loadVar_row w g t ty cs fr d hg hu hd hi, Result.andThen]
theorem ret_ctt (h : fn.results = #[.cell p ty, .tmp u, .tmp u2]) (hp : tmps.getD p undef = .pointer (some ⟨g, 0, none⟩)) (hg : w.heap[g]? = some (.cells cs t fr))
    (hu : P.underlying ty = some d) (hd : (match d with | .struct _ | .array _ _ => true | _ => false) = true) (hi : (P.info? ty).map (·.size) = some cs.size) :
    (results fn tmps).run P w = .ok (.tuple #[.agg cs, tmps.getD u undef, tmps.getD u2 undef]) w := by
  have hp' : tmps[p]?.getD undef = .pointer (some ⟨g, 0, none⟩) := by simpa using hp
  simp [results, h, hp', asAddr, run_loadVar_row w g t ty cs fr d hg hu hd hi, Result.andThen]
end
end Go.Proofs.Ytgkfhppmopmgjaa

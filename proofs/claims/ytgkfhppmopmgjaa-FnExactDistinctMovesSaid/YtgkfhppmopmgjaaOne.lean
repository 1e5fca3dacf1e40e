/- One cell, or some cells in the midst, of a block that is known whole: written, read. -/
import Derived.Test.YtgkfhppmopmgjaaLines
set_option linter.all false
namespace Go.Proofs.Ytgkfhppmopmgjaa
open Go.RowKit Pl

theorem storeAt {P : Program} {ops : Array Oper} {rest : List Oper} {a : Act} {w w2 : World} {Q : Exit → Act → World → Prop} {dst : Option Tmp} {type : TypeId} {pos : String} {after : Array Edge} {ty : TypeId} {x y : Operand}
    {g o n : Nat} {t : TypeId} {v : Value} {cur : Array Value} (hx : a.eval x = .pointer (some ⟨g, o, none⟩)) (hy : a.eval y = v) (hg : w.heap[g]? = some (.cells cur t (0, 0))) (hi : (P.info? ty).map (·.size) = some n)
    (hn : v.cells.size = n) (ho : o + n ≤ cur.size) (h1 : v.cells.all (·.oneCell') = true) (hw : w.setRow g (cur.toList.take o ++ v.cells.toList ++ cur.toList.drop (o + n)).toArray = w2)
    (h : wpList P ops Q rest (a.put dst undef) w2) : wpList P ops Q (⟨dst, .store ty x y, type, pos, after, none⟩ :: rest) a w := by
  refine wpList_plain rfl fun _ hK => ?_
  have hst := run_storeCells_at P g o t v.cells.toList 0 cur w hg (by simp [hn]; omega) (fun u hu => (Array.all_eq_true_iff_forall_mem.1 h1) u (by simpa using hu))
  have hs : (storeVar ty ⟨g, o, none⟩ v).run P w = .ok () w2 := by
    cases hq : P.info? ty with
    | none => simp [hq] at hi
    | some i =>
      have hsz : v.cells.size = i.size := by simp [hq] at hi; omega
      simp only [Nat.add_zero, Array.length_toList, hn] at hst
      rw [hw] at hst
      simp [storeVar, sizeOf, typeInfo, hq, hsz, hst]
  unfold Oper.wp execOp
  simp only [hx, hy, Instr.storeAt, Instr.sureAddr, Sem.run_bind, Sem.run_pure, Result.andThen_ok, hs]
  exact hK _ _ h

theorem cells_set (l : List Int) (o : Nat) (z : Int) (ho : o < l.length) : ((cellsB l).toList.take o ++ [Value.int .i64 z] ++ (cellsB l).toList.drop (o + 1)).toArray = cellsB (l.set o z) := by
  unfold cellsB
  congr 1
  simp only [List.map_set]
  rw [List.set_eq_take_append_cons_drop, if_pos (by simpa using ho)]
  simp
/-- One whole number stored into a block of whole numbers. -/
theorem storeI {P : Program} {ops : Array Oper} {rest : List Oper} {a : Act} {w w2 : World} {Q : Exit → Act → World → Prop} {dst : Option Tmp} {type : TypeId} {pos : String} {after : Array Edge} {ty : TypeId} {x y : Operand}
    {g o : Nat} {t : TypeId} {z : Int} {l : List Int} (hx : a.eval x = .pointer (some ⟨g, o, none⟩)) (hy : a.eval y = .int .i64 z) (hg : w.heap[g]? = some (.cells (cellsB l) t (0, 0))) (hi : (P.info? ty).map (·.size) = some 1)
    (ho : o < l.length) (hw : w.setRow g (cellsB (l.set o z)) = w2)
    (h : wpList P ops Q rest (a.put dst undef) w2) : wpList P ops Q (⟨dst, .store ty x y, type, pos, after, none⟩ :: rest) a w :=
  storeAt (n := 1) hx hy hg hi rfl (by rw [size_cellsB]; omega) (by simp [Value.cells, Value.oneCell']) (by rw [← hw, ← cells_set l o z ho]; rfl) h
theorem cellsB_at {l : List Int} {k : Nat} (h : k < l.length) : (cellsB l)[k]? = some (.int .i64 (l.getD k 0)) := by simp [cellsB, h]
theorem cell_at {w : World} {g k : Nat} {l : List Int} {t : TypeId} {fr : Nat × Nat} (hg : w.heap[g]? = some (.cells (cellsB l) t fr)) (h : k < l.length) : w.cell? ⟨g, k, none⟩ = some (.int .i64 (l.getD k 0)) := by
  rw [cell_of_row w g k _ t fr hg]; exact cellsB_at h

theorem cell_new {w : World} {g k : Nat} {cs : Array Value} {e : TypeId} {f : Nat × Nat} {u : Value} (h : g = w.heap.size) (hk : cs[k]? = some u) : (w.alloc (.cells cs e f)).cell? ⟨g, k, none⟩ = some u := by
  rw [cell_of_row _ g k cs e f (heap_new h)]; exact hk

/-- Cells in the midst of an array read as an array. -/
theorem loadMid {P : Program} {ops : Array Oper} {rest : List Oper} {a : Act} {w : World} {Q : Exit → Act → World → Prop} {dst : Option Tmp} {type : TypeId} {pos : String} {after : Array Edge} {ty : TypeId} {x : Operand}
    {g o n : Nat} {l : List Int} {d : TypeDesc} (hu : P.underlying ty = some d) (hx : a.eval x = .pointer (some ⟨g, o, none⟩)) (hl : l.length = n) (hc : ∀ j, j < n → w.cell? ⟨g, o + j, none⟩ = some (.int .i64 (l.getD j 0)))
    (hd : d.isRow = true) (hi : (P.info? ty).map (·.size) = some n)
    (h : wpList P ops Q rest (a.put dst (aggB l)) w) : wpList P ops Q (⟨dst, .load ty x, type, pos, after, none⟩ :: rest) a w := by
  refine wpList_load_mid rfl ty x rfl g o hx (l.map (Value.int .i64)) d ?_ hu hd (by rw [hi]; simp [hl]) h
  intro j v hv
  have hj : j < n := by have := (List.getElem?_eq_some_iff.1 hv).1; simpa [hl] using this
  rw [hc j hj, ← hv, List.getElem?_map, List.getD_eq_getElem?_getD, List.getElem?_eq_getElem (by omega)]
  rfl
theorem own_cell {W : World} {B : Nat} {e : TypeId} {v : Value} {s n : Nat} {l : List Int} {g c : Nat} (h : W.ownsRow B e s v n (l.map (Value.int .i64))) (hv : v = .slice (some ⟨g, 0, none⟩) n c) (k : Nat) (hk : k < l.length) : W.cell? ⟨g, k, none⟩ = some (.int .i64 (l.getD k 0)) := by
  have := h.cells (g := g) (by rw [hv]; rfl) k (.int .i64 (l.getD k 0)) (by simp [hk])
  rw [Addr.add_lit, Nat.zero_add] at this
  exact this
theorem own_addr {W : World} {B : Nat} {e : TypeId} {v : Value} {s n : Nat} {xs : List Value} (h : W.ownsRow B e s v n xs) (hn : 0 < n) : ∃ g c, v = .slice (some ⟨g, 0, none⟩) n c ∧ n ≤ c ∧ c ≤ maxLen ∧ B ≤ g ∧ g < W.heap.size := by
  obtain ⟨_, ⟨rfl, rfl⟩ | ⟨g, cap, cur, rfl, hb, hblk, h4, h5, h6, h7⟩⟩ := h
  · omega
  · exact ⟨g, cap, rfl, h4, h5, hb, (Array.getElem?_eq_some_iff.1 hblk).1⟩

/-- Whole numbers of a slice appended to whole numbers that the call owns. -/
theorem appendR {ops : Array Oper} {rest : List Oper} {a : Act} {w : World} {Q : Exit → Act → World → Prop} {dst : Option Tmp} {type : TypeId} {pos : String} {after : Array Edge} {x y : Operand}
    {B : Nat} {v : Value} {l zs : List Int} {g o m c : Nat} (hown : w.ownsRow B 3 1 v l.length (l.map (Value.int .i64))) (hx : a.eval x = v) (hy : a.eval y = .slice (some ⟨g, o, none⟩) m c)
    (hz : zs.length = m) (hg : ∀ j, j < m → w.cell? ⟨g, o + j, none⟩ = some (.int .i64 (zs.getD j 0))) (hn : l.length + m < 100000000) (hB : B ≤ w.heap.size)
    (h : ∀ v' w', w'.ownsRow B 3 1 v' (l ++ zs).length ((l ++ zs).map (Value.int .i64)) → Below B w w' → wpList Try.prog ops Q rest (a.put dst v') w') :
    wpList Try.prog ops Q (⟨dst, .call { callee := .builtin .append, args := #[x, y], argTypes := #[34, 34] }, type, pos, after, none⟩ :: rest) a w := by
  obtain ⟨i0, hi, hz0, hz1, hz2⟩ := info_parts info3
  refine wpList_append_own w rfl x y 34 rfl B 3 i0 (.int .i64 0) 1 8 Try.underlying34 hi hz0 hz1 hz2 rfl (by decide) v l.length _ hx hown ⟨g, o, none⟩ m c (zs.map (Value.int .i64)) hy (by simp [hz]) ?_ ?_ ?_ ?_ hB ?_
  · intro j u hj
    have hjm : j < m := by have := (List.getElem?_eq_some_iff.1 hj).1; simpa [hz] using this
    rw [Addr.add_mid, hg j hjm, ← hj, List.getElem?_map, List.getD_eq_getElem?_getD, List.getElem?_eq_getElem (by omega)]
    rfl
  · intro u hu
    obtain ⟨z, _, rfl⟩ := List.mem_map.1 hu
    rfl
  · unfold maxLen; omega
  · omega
  · intro v' w' h1 h2 _
    refine h v' w' (by simpa [hz] using h1) ?_
    refine Below.grown (Below.refl B w) h2 hB ?_
    intro g' hg'
    obtain ⟨_, ⟨rfl, _⟩ | ⟨g0, cap, cur, rfl, hb, _⟩⟩ := hown
    · simp [Value.ownBlock] at hg'
    · simp [Value.ownBlock] at hg'; omega

/-- So many zeros appended to nil: a new array. -/
theorem run_append_zeros {P : Program} (w : World) {t ty2 ety : TypeId} (ty : TypeId) {i : TypeInfo} {z : Value} (ht : P.underlying t = some (.slice ety)) (hu : P.underlying ty2 = some (.int .i64)) (hi : P.info? ety = some i) (hz : i.zero = some z) (hzc : z.cells.size = i.size) (hs : 0 < i.size)
    (n : Nat) (h0 : 0 < n) (h63 : (n : Int) ≤ 9223372036854775807) (h48 : n * i.bytes ≤ 281474976710656) :
    (Builtin.append_ #[t, ty2] ty #[.slice none 0 0, .int .i64 n]).run P w =
      .ok (.slice (some ⟨w.heap.size, 0, none⟩) n (grownCap w n 0 ety)) (w.drew.alloc (.cells (Builtin.zeroCells z.cells n ++ Builtin.zeroCells z.cells (grownCap w n 0 ety - n)) ety)) := by
  have hn : n ≠ 0 := by omega
  have hw : IntKind.i64.wrap (n : Int) = n := by rw [IntKind.wrap_i64]; omega
  have hns : ¬ (n * i.size = 0) := by rw [Nat.mul_eq_zero]; omega
  have hns' : ¬ (n = 0 ∨ i.size = 0) := by omega
  have hneg : ¬ ((n : Int) < 0) := by omega
  have hb : ¬ (281474976710656 < (n : Int) * (i.bytes : Int)) := by
    rw [← Int.natCast_mul]; omega
  have h63' : ¬ (9223372036854775807 < (n : Int)) := by omega
  have h48' : ¬ (281474976710656 < Builtin.nextslicecap n 0 * i.bytes) := by rw [nextslicecap_zero h0]; omega
  simp [Builtin.append_, run_underlying ht, run_underlying hu, sizeOf, typeInfo, zeroValue, hi, hz, Builtin.lenOf, Builtin.firstCells, hn, hw, hns, hns', hneg, hb, h63', h48', Question.forced, newRow, grownCap, asInt, asIntOf]
theorem appendZ {ops : Array Oper} {rest : List Oper} {a : Act} {w : World} {Q : Exit → Act → World → Prop} {dst : Option Tmp} {type : TypeId} {pos : String} {after : Array Edge} {x y : Operand}
    {n : Nat} (hx : a.eval x = .slice none 0 0) (hy : a.eval y = .int .i64 n) (h0 : 0 < n) (hn : n < 100000000)
    (h : ∀ (cap : Nat) (cur : Array Value), n ≤ cap → cap ≤ maxLen → cur.size = cap → wpList Try.prog ops Q rest (a.put dst (.slice (some ⟨w.heap.size, 0, none⟩) n cap)) (w.drew.alloc (.cells (cur) 3 (0, 0)))) :
    wpList Try.prog ops Q (⟨dst, .call { callee := .builtin .append, args := #[x, y], argTypes := #[34, 3] }, type, pos, after, none⟩ :: rest) a w := by
  obtain ⟨i0, hi, hz0, hz1, hz2⟩ := info_parts info3
  have hr := run_append_zeros (P := Try.prog) w (t := 34) (ty2 := 3) (ety := 3) type Try.underlying34 Try.underlying3 hi hz0 (by rw [hz1]; rfl) (by omega) n h0 (by omega) (by rw [hz2]; omega)
  have hge := grownCap_ge w n 0 3
  have hcm := grownCap_le_maxLen w n 0 3 (by unfold maxLen; omega)
  refine wpList_plain rfl fun _ hK => ?_
  unfold Oper.wp execOp
  simp only [resolve, invoke, builtin, Sem.run_bind, Sem.run_pure, Result.andThen_ok, List.map_toArray, List.map_cons, List.map_nil, hx, hy, hr]
  refine hK _ _ (h _ _ hge hcm ?_)
  simp only [Array.size_append, size_zeroCells]
  have : (Value.int IntKind.i64 0).cells.size = 1 := rfl
  rw [this]; omega
end Go.Proofs.Ytgkfhppmopmgjaa

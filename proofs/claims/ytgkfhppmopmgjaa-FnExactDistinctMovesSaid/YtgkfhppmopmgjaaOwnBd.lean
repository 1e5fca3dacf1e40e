/- Slices of boards that a call makes and appends to. -/
import Derived.Test.YtgkfhppmopmgjaaOne
set_option linter.all false
namespace Go.Proofs.Ytgkfhppmopmgjaa
open Go.RowKit Pl

theorem info27 : (Try.prog.info? 28).map (fun i => (i.zero, i.size, i.bytes)) = some (some (.agg #[.int .i64 0, .int .i64 0, .int .i64 0, .int .i64 0, .int .i64 0, .int .i64 0, .int .i64 0, .int .i64 0, .int .i64 0, .int .i64 0, .int .i64 0, .int .i64 0, .int .i64 0, .int .i64 0, .int .i64 0, .int .i64 0]), 16, 128) := by kernel_rfl
/-- All boards are of sixteen numbers. -/
def All16 (bs : List (List Int)) : Prop := ∀ x ∈ bs, x.length = 16
/-- A slice of boards that calls have made. -/
structure OwnBd (w : World) (B : Nat) (v : Value) (bs : List (List Int)) : Prop where
  len : All16 bs
  own : w.ownsRow B 28 16 v bs.length (bs.flatten.map (Value.int .i64))
theorem flat16_length {bs : List (List Int)} (h : All16 bs) : bs.flatten.length = bs.length * 16 := by
  induction bs with
  | nil => rfl
  | cons x bs ih =>
    have := h x (by simp)
    rw [List.flatten_cons, List.length_append, ih fun y hy => h y (by simp [hy]), this, List.length_cons]; omega
theorem flat16_get {bs : List (List Int)} (h : All16 bs) (k j : Nat) (hk : k < bs.length) (hj : j < 16) : bs.flatten[k * 16 + j]? = some ((bs.getD k []).getD j 0) := by
  induction bs generalizing k with
  | nil => simp at hk
  | cons x bs ih =>
    have hx := h x (by simp)
    rw [List.flatten_cons]
    cases k with
    | zero =>
      rw [Nat.zero_mul, Nat.zero_add, List.getElem?_append_left (by omega), List.getD_cons_zero, List.getD_eq_getElem?_getD, List.getElem?_eq_getElem (by omega)]
      rfl
    | succ k =>
      rw [List.getElem?_append_right (by omega), List.getD_cons_succ, ← ih (fun y hy => h y (by simp [hy])) k (by simpa using hk)]
      congr 1
      omega
theorem getD_16 {bs : List (List Int)} (h : All16 bs) (k : Nat) (hk : k < bs.length) : (bs.getD k []).length = 16 := by
  rw [List.getD_eq_getElem?_getD, List.getElem?_eq_getElem hk]; exact h _ (List.getElem_mem hk)
theorem All16.app {a b : List (List Int)} (ha : All16 a) (hb : All16 b) : All16 (a ++ b) := fun x hx => by
  rcases List.mem_append.1 hx with h | h
  · exact ha x h
  · exact hb x h
theorem All16.one {x : List Int} (h : x.length = 16) : All16 [x] := fun y hy => by simp at hy; subst hy; exact h
theorem OwnBd.junk {W : World} {B : Nat} {v : Value} {l : List (List Int)} (h : OwnBd W B v l) (d : Nat) (os : Array Obj) : OwnBd (junk W d os) B v l := ⟨h.1, own_junk h.2 d os⟩
theorem OwnBd.alloc {W : World} {B : Nat} {v : Value} {l : List (List Int)} (h : OwnBd W B v l) (o : Obj) : OwnBd (W.alloc o) B v l := ⟨h.1, h.2.alloc o⟩
theorem OwnBd.below {W W' : World} {B B' : Nat} {v : Value} {l : List (List Int)} (h : OwnBd W B v l) (hb : Below B' W W') (hB : W.heap.size ≤ B') : OwnBd W' B v l := ⟨h.1, own_below h.2 hb hB⟩
theorem OwnBd.base {W : World} {B B' : Nat} {v : Value} {l : List (List Int)} (h : OwnBd W B v l) (hB : B' ≤ B) : OwnBd W B' v l := ⟨h.1, own_base h.2 hB⟩
theorem own_setRow {W : World} {B n : Nat} {e : TypeId} {s : Nat} {v : Value} {m : Nat} {xs : List Value} {cs : Array Value} (h : W.ownsRow B e s v m xs) (hn : n < B) : (W.setRow n cs).ownsRow B e s v m xs := by
  obtain ⟨hl, ⟨hv, hm⟩ | ⟨g, cap, cur, hv, hb, hblk, h4, h5, h6, h7⟩⟩ := h
  · exact ⟨hl, .inl ⟨hv, hm⟩⟩
  · exact ⟨hl, .inr ⟨g, cap, cur, hv, hb, heap_setRow_other (by omega) hblk, h4, h5, h6, h7⟩⟩
theorem OwnBd.setRow {W : World} {B n : Nat} {v : Value} {l : List (List Int)} {cs : Array Value} (h : OwnBd W B v l) (hn : n < B) : OwnBd (W.setRow n cs) B v l := ⟨h.1, own_setRow h.2 hn⟩
theorem OwnBd.nil (W : World) (B : Nat) : OwnBd W B (.slice none 0 0) [] := ⟨fun x hx => by simp at hx, World.ownsRow_nil _ _ _ _⟩
theorem OwnBd.empty {W : World} {B g : Nat} (hb : B ≤ g) (hblk : W.heap[g]? = some (.cells #[] 28 (0, 0))) : OwnBd W B (.slice (some ⟨g, 0, none⟩) 0 0) [] := ⟨fun x hx => by simp at hx, own_empty hb hblk⟩
theorem OwnBd.made {W : World} {B g : Nat} {b : List Int} (hl : b.length = 16) (hb : B ≤ g) (hblk : W.heap[g]? = some (.cells (cellsB b) 28 (0, 0))) : OwnBd W B (.slice (some ⟨g, 0, none⟩) 1 1) [b] :=
  ⟨All16.one hl, by simp [hl], .inr ⟨g, 1, _, rfl, hb, hblk, Nat.le_refl _, by simp [maxLen], by simp [cellsB, hl], by simp only [cellsB, List.flatten_cons, List.flatten_nil, List.append_nil]; exact List.take_of_length_le (by simp [hl])⟩⟩
theorem OwnBd.shape {w : World} {B : Nat} {v : Value} {bs : List (List Int)} (h : OwnBd w B v bs) : ∃ a c, v = .slice a bs.length c := own_shape h.2
theorem OwnBd.at {w : World} {B : Nat} {v : Value} {bs : List (List Int)} (h : OwnBd w B v bs) (hn : 0 < bs.length) : ∃ g c, v = .slice (some ⟨g, 0, none⟩) bs.length c ∧ bs.length ≤ c ∧ c ≤ maxLen ∧ B ≤ g ∧ g < w.heap.size ∧
    ∀ k j, k < bs.length → j < 16 → w.cell? ⟨g, k * 16 + j, none⟩ = some (.int .i64 ((bs.getD k []).getD j 0)) := by
  obtain ⟨g, c, hv, h1, h2, h3, h4⟩ := own_addr h.2 hn
  refine ⟨g, c, hv, h1, h2, h3, h4, fun k j hk hj => ?_⟩
  have hlt : k * 16 + j < bs.flatten.length := by
    rw [flat16_length h.1]
    have := Nat.mul_le_mul_right 16 (show k + 1 ≤ bs.length by omega)
    omega
  rw [own_cell h.2 hv _ hlt, List.getD_eq_getElem?_getD, flat16_get h.1 k j hk hj]
  rfl

/-- Boards of a slice appended to boards that the call owns. -/
theorem appendBs {ops : Array Oper} {rest : List Oper} {a : Act} {w : World} {Q : Exit → Act → World → Prop} {dst : Option Tmp} {type : TypeId} {pos : String} {after : Array Edge} {x y : Operand}
    {B : Nat} {v : Value} {l zs : List (List Int)} {g o m c : Nat} (hown : OwnBd w B v l) (hx : a.eval x = v) (hy : a.eval y = .slice (some ⟨g, o, none⟩) m c)
    (hz : zs.length = m) (hz16 : All16 zs) (hg : ∀ k j, k < m → j < 16 → w.cell? ⟨g, o + (k * 16 + j), none⟩ = some (.int .i64 ((zs.getD k []).getD j 0))) (hn : l.length + m ≤ 1099511627776) (hB : B ≤ w.heap.size)
    (h : ∀ v' w', OwnBd w' B v' (l ++ zs) → Below B w w' → wpList Try.prog ops Q rest (a.put dst v') w') :
    wpList Try.prog ops Q (⟨dst, .call { callee := .builtin .append, args := #[x, y], argTypes := #[64, 64] }, type, pos, after, none⟩ :: rest) a w := by
  obtain ⟨i0, hi, hz0, hz1, hz2⟩ := info_parts info27
  refine wpList_append_own w rfl x y 64 rfl B 28 i0 _ 16 128 Try.underlying64 hi hz0 hz1 hz2 rfl (by decide) v l.length _ hx hown.2 ⟨g, o, none⟩ m c (zs.flatten.map (Value.int .i64)) hy (by rw [List.length_map, flat16_length hz16, hz]) ?_ ?_ ?_ ?_ hB ?_
  · intro j u hj
    have hjm : j < m * 16 := by have := (List.getElem?_eq_some_iff.1 hj).1; rw [List.length_map, flat16_length hz16, hz] at this; exact this
    have hd := hg (j / 16) (j % 16) (by omega) (by omega)
    have hdm : j / 16 * 16 + j % 16 = j := by omega
    rw [hdm] at hd
    rw [Addr.add_mid, hd, ← hj, List.getElem?_map]
    have := flat16_get hz16 (j / 16) (j % 16) (by omega) (by omega)
    rw [hdm] at this
    rw [this]; rfl
  · intro u hu
    obtain ⟨z, _, rfl⟩ := List.mem_map.1 hu
    rfl
  · unfold maxLen; omega
  · omega
  · intro v' w' h1 h2 _
    refine h v' w' ⟨hown.1.app hz16, by simpa [hz] using h1⟩ ?_
    refine Below.grown (Below.refl B w) h2 hB ?_
    intro g' hg'
    obtain ⟨_, ⟨rfl, _⟩ | ⟨g0, cap, cur, rfl, hb, _⟩⟩ := hown.2
    · simp [Value.ownBlock] at hg'
    · simp [Value.ownBlock] at hg'; omega
theorem appendB1 {ops : Array Oper} {rest : List Oper} {a : Act} {w : World} {Q : Exit → Act → World → Prop} {dst : Option Tmp} {type : TypeId} {pos : String} {after : Array Edge} {x y : Operand}
    {B : Nat} {v : Value} {l : List (List Int)} {z : List Int} {g : Nat} (hown : OwnBd w B v l) (hx : a.eval x = v) (hy : a.eval y = .slice (some ⟨g, 0, none⟩) 1 1)
    (hg : w.heap[g]? = some (.cells (cellsB z) 28 (0, 0))) (hz : z.length = 16) (hn : l.length + 1 ≤ 1099511627776) (hB : B ≤ w.heap.size)
    (h : ∀ v' w', OwnBd w' B v' (l ++ [z]) → Below B w w' → wpList Try.prog ops Q rest (a.put dst v') w') :
    wpList Try.prog ops Q (⟨dst, .call { callee := .builtin .append, args := #[x, y], argTypes := #[64, 64] }, type, pos, after, none⟩ :: rest) a w :=
  appendBs hown hx hy rfl (All16.one hz) (fun k j hk hj => by
    obtain rfl : k = 0 := by omega
    rw [Nat.zero_mul, Nat.zero_add, Nat.zero_add]
    show _ = some (Value.int .i64 (z.getD j 0))
    exact cell_at hg (by omega)) hn hB h

theorem run_buildB (z : List Int) (hz : z.length = 16) (w : World) : (Instr.buildSlice (64) 1 #[(0, aggB z)]).run Try.prog w = .ok (.slice (some ⟨w.heap.size, 0, none⟩) 1 1) (w.alloc (.cells (cellsB z) 28 (0, 0))) := by
  obtain ⟨x0, x1, x2, x3, x4, x5, x6, x7, x8, x9, x10, x11, x12, x13, x14, x15, rfl⟩ := len16 z hz
  kernel_rfl
/-- A slice of one board, laid. -/
theorem buildB {ops : Array Oper} {rest : List Oper} {a : Act} {w : World} {Q : Exit → Act → World → Prop} {dst : Option Tmp} {type : TypeId} {pos : String} {after : Array Edge} {x : Operand} {z : List Int}
    (hx : a.eval x = aggB z) (hz : z.length = 16) (h : wpList Try.prog ops Q rest (a.put dst (.slice (some ⟨w.heap.size, 0, none⟩) 1 1)) (w.alloc (.cells (cellsB z) 28 (0, 0)))) :
    wpList Try.prog ops Q (⟨dst, .buildSlice (64) 1 #[(0, x)], type, pos, after, none⟩ :: rest) a w := by
  refine wpList_plain rfl fun _ hK => ?_
  unfold Oper.wp execOp
  simp only [List.map_toArray, List.map_cons, List.map_nil, hx, Sem.run_bind, run_buildB z hz w, Result.andThen_ok, Sem.run_pure]
  exact hK _ _ h

theorem loadQm2 {P : Program} {ops : Array Oper} {rest : List Oper} {C : World → Prop} {Q : Act → Prop} {a : Act} {dst : Option Tmp} {type : TypeId} {pos : String} {after : Array Edge} {ty : TypeId} {x : Operand}
    {g o n : Nat} {l : List Int} {d : TypeDesc} (hu : P.underlying ty = some d) (hx : a.eval x = .pointer (some ⟨g, o, none⟩)) (hl : l.length = n) (hg : ∀ w, C w → ∀ j, j < n → w.cell? ⟨g, o + j, none⟩ = some (.int .i64 (l.getD j 0)))
    (hd : d.isRow = true) (hi : (P.info? ty).map (·.size) = some n)
    (h : wpQuiet P ops C Q rest (a.put dst (aggB l))) : wpQuiet P ops C Q (⟨dst, .load ty x, type, pos, after, none⟩ :: rest) a := by
  refine BigFrame.wpQuiet_want rfl fun K hK => ⟨aggB l, fun w hw => ?_, hK _ h⟩
  have hr : w.rangeAt g o (l.map (Value.int .i64)) := fun j v hv => by
    have hj : j < n := by have := (List.getElem?_eq_some_iff.1 hv).1; simpa [hl] using this
    rw [hg w hw j hj, ← hv, List.getElem?_map, List.getD_eq_getElem?_getD, List.getElem?_eq_getElem (by omega)]
    rfl
  unfold Oper.quietAt execOp
  simp only [hx, Instr.loadAt, Instr.sureAddr, Sem.run_bind, Sem.run_pure, Result.andThen_ok, run_loadVar_mid w g o ty (l.map (Value.int .i64)) d hr hu hd (by rw [hi]; simp [hl])]
  exact ⟨rfl, rfl⟩
/-- As loadQm2, behind a guard that stands. -/
theorem loadQG {P : Program} {ops : Array Oper} {rest : List Oper} {C : World → Prop} {Q : Act → Prop} {a : Act} {dst : Option Tmp} {type : TypeId} {pos : String} {after : Array Edge} {gd : Option (Nat × Bool)} {ty : TypeId} {x : Operand}
    {g o n : Nat} {l : List Int} {d : TypeDesc} (hu : P.underlying ty = some d) (hx : a.eval x = .pointer (some ⟨g, o, none⟩)) (hl : l.length = n) (hg : ∀ w, C w → ∀ j, j < n → w.cell? ⟨g, o + j, none⟩ = some (.int .i64 (l.getD j 0)))
    (hd : d.isRow = true) (hi : (P.info? ty).map (·.size) = some n) (hw : Region.wanted ⟨dst, .load ty x, type, pos, after, gd⟩ (yielded ops a.tmps) = true)
    (h : wpQuiet P ops C Q rest (a.put dst (aggB l))) : wpQuiet P ops C Q (⟨dst, .load ty x, type, pos, after, gd⟩ :: rest) a := by
  refine BigFrame.wpQuiet_want hw fun K hK => ⟨aggB l, fun w hw => ?_, hK _ h⟩
  have hr : w.rangeAt g o (l.map (Value.int .i64)) := fun j v hv => by
    have hj : j < n := by have := (List.getElem?_eq_some_iff.1 hv).1; simpa [hl] using this
    rw [hg w hw j hj, ← hv, List.getElem?_map, List.getD_eq_getElem?_getD, List.getElem?_eq_getElem (by omega)]
    rfl
  unfold Oper.quietAt execOp
  simp only [hx, Instr.loadAt, Instr.sureAddr, Sem.run_bind, Sem.run_pure, Result.andThen_ok, run_loadVar_mid w g o ty (l.map (Value.int .i64)) d hr hu hd (by rw [hi]; simp [hl])]
  exact ⟨rfl, rfl⟩
end Go.Proofs.Ytgkfhppmopmgjaa

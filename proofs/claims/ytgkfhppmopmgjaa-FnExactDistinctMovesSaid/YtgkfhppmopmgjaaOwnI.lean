/- Slices of whole numbers that a call makes and appends to, one number at a time. -/
import Derived.Test.YtgkfhppmopmgjaaBoards
import Derived.Test.YtgkfhppmopmgjaaTiles
import Derived.OwnWalk
set_option linter.all false
namespace Go.Proofs.Ytgkfhppmopmgjaa
open Go.RowKit Pl

theorem info3 : (Try.prog.info? 3).map (fun i => (i.zero, i.size, i.bytes)) = some (some (.int .i64 0), 1, 8) := by kernel_rfl
theorem own_junk {W : World} {B : Nat} {e : TypeId} {s : Nat} {v : Value} {n : Nat} {xs : List Value} (h : W.ownsRow B e s v n xs) (d : Nat) (os : Array Obj) : (junk W d os).ownsRow B e s v n xs := by
  obtain ⟨hl, ⟨hv, hn⟩ | ⟨g, cap, cur, hv, hb, hblk, h4, h5, h6, h7⟩⟩ := h
  · exact ⟨hl, .inl ⟨hv, hn⟩⟩
  · exact ⟨hl, .inr ⟨g, cap, cur, hv, hb, heap_junk (Array.getElem?_eq_some_iff.1 hblk).1 hblk, h4, h5, h6, h7⟩⟩
theorem own_below {W W' : World} {B B' : Nat} {e : TypeId} {s : Nat} {v : Value} {n : Nat} {xs : List Value} (h : W.ownsRow B e s v n xs) (hb : Below B' W W') (hB : W.heap.size ≤ B') : W'.ownsRow B e s v n xs := by
  obtain ⟨hl, ⟨hv, hn⟩ | ⟨g, cap, cur, hv, hb0, hblk, h4, h5, h6, h7⟩⟩ := h
  · exact ⟨hl, .inl ⟨hv, hn⟩⟩
  · exact ⟨hl, .inr ⟨g, cap, cur, hv, hb0, by rw [hb.block g (by have := (Array.getElem?_eq_some_iff.1 hblk).1; omega)]; exact hblk, h4, h5, h6, h7⟩⟩

theorem own_base {W : World} {B B' : Nat} {e : TypeId} {s : Nat} {v : Value} {n : Nat} {xs : List Value} (h : W.ownsRow B e s v n xs) (hB : B' ≤ B) : W.ownsRow B' e s v n xs := by
  obtain ⟨hl, ⟨hv, hn⟩ | ⟨g, cap, cur, hv, hb0, hblk, h4, h5, h6, h7⟩⟩ := h
  · exact ⟨hl, .inl ⟨hv, hn⟩⟩
  · exact ⟨hl, .inr ⟨g, cap, cur, hv, by omega, hblk, h4, h5, h6, h7⟩⟩
theorem own_empty {W : World} {B : Nat} {e : TypeId} {s : Nat} {g : Nat} (hb : B ≤ g) (hblk : W.heap[g]? = some (.cells #[] e (0, 0))) : W.ownsRow B e s (.slice (some ⟨g, 0, none⟩) 0 0) 0 [] :=
  ⟨by simp, .inr ⟨g, 0, #[], rfl, hb, hblk, Nat.le_refl _, by simp [maxLen], by simp, by simp⟩⟩

theorem appendI {ops : Array Oper} {rest : List Oper} {a : Act} {w : World} {Q : Exit → Act → World → Prop} {dst : Option Tmp} {type : TypeId} {pos : String} {after : Array Edge} {x y : Operand}
    {B : Nat} {v : Value} {l : List Int} {g : Nat} {z : Int} (hown : w.ownsRow B 3 1 v l.length (l.map (Value.int .i64))) (hx : a.eval x = v) (hy : a.eval y = .slice (some ⟨g, 0, none⟩) 1 1)
    (hg : w.heap[g]? = some (.cells #[.int .i64 z] 3 (0, 0))) (hn : l.length < 1000000) (hB : B ≤ w.heap.size)
    (h : ∀ v' w', w'.ownsRow B 3 1 v' (l ++ [z]).length ((l ++ [z]).map (Value.int .i64)) → Below B w w' → wpList Try.prog ops Q rest (a.put dst v') w') :
    wpList Try.prog ops Q (⟨dst, .call { callee := .builtin .append, args := #[x, y], argTypes := #[34, 34] }, type, pos, after, none⟩ :: rest) a w := by
  obtain ⟨i0, hi, hz0, hz1, hz2⟩ := info_parts info3
  refine wpList_append_own w rfl x y 34 rfl B 3 i0 (.int .i64 0) 1 8 Try.underlying34 hi hz0 hz1 hz2 rfl (by decide) v l.length _ hx hown ⟨g, 0, none⟩ 1 1 [.int .i64 z] hy rfl ?_ ?_ ?_ ?_ hB ?_
  · intro j u hj
    match j, hj with
    | 0, hj =>
      simp only [List.getElem?_cons_zero, Option.some.injEq] at hj
      subst hj
      simp [Addr.add, World.cell?, hg]
  · intro u hu; simp at hu; subst hu; rfl
  · unfold maxLen; omega
  · omega
  · intro v' w' h1 h2 _
    refine h v' w' (by simpa using h1) ?_
    refine Below.grown (Below.refl B w) h2 hB ?_
    intro g' hg'
    obtain ⟨_, ⟨rfl, _⟩ | ⟨g0, cap, cur, rfl, hb, _⟩⟩ := hown
    · simp [Value.ownBlock] at hg'
    · simp [Value.ownBlock] at hg'; omega

theorem own_shape {W : World} {B : Nat} {e : TypeId} {s : Nat} {v : Value} {n : Nat} {xs : List Value} (h : W.ownsRow B e s v n xs) : ∃ a cap, v = .slice a n cap := by
  obtain ⟨_, ⟨rfl, rfl⟩ | ⟨g, cap, cur, rfl, _⟩⟩ := h
  · exact ⟨none, 0, rfl⟩
  · exact ⟨_, cap, rfl⟩

/-- The directions below k in which a slide is a move. -/
def mvB (b : List Int) (k : Nat) : List Int := ((List.range k).filter fun d => decide (slideB b d ≠ b)).map Int.ofNat
theorem mvB_four (b : List Int) : mvB b 4 = movesB b := rfl
theorem mvB_hit {b : List Int} {k : Nat} (h : ¬ slideB b k = b) : mvB b (k + 1) = mvB b k ++ [(k : Int)] := by simp [mvB, List.range_succ, h]
theorem mvB_miss {b : List Int} {k : Nat} (h : slideB b k = b) : mvB b (k + 1) = mvB b k := by simp [mvB, List.range_succ, h]
theorem mvB_len (b : List Int) (k : Nat) : (mvB b k).length ≤ k := by
  have := List.length_filter_le (fun d => decide (slideB b d ≠ b)) (List.range k)
  simp only [mvB, List.length_map]
  simpa using this
end Go.Proofs.Ytgkfhppmopmgjaa

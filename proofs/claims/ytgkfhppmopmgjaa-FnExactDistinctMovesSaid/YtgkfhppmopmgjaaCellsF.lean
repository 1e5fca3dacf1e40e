/- Walks of single functions of the given Go program, printed by a program of mine; each theorem says what the function returns. -/
import Derived.Test.YtgkfhppmopmgjaaRows
import Derived.WalkKit
import Derived.WalkSpells
import Derived.WalkLawsBesides
import Derived.Handy
import Derived.Deep.QuietTactic
import Derived.BigQuiet
import Derived.Lib.Hide
import Derived.Test.YtgkfhppmopmgjaaCP
import Derived.Deep.Cut
set_option linter.all false
namespace Go.Proofs.Ytgkfhppmopmgjaa
open Go.RowKit Pl Go.Lib Go.Shelf

/-- The first k cells, row and column of each. -/
def cellsU (k : Nat) : List Int := (List.range k).flatMap fun (i : Nat) => [((i / 4 : Nat) : Int), ((i % 4 : Nat) : Int)]
theorem cellsU_succ (k : Nat) : cellsU (k + 1) = cellsU k ++ [((k / 4 : Nat) : Int), ((k % 4 : Nat) : Int)] := by simp [cellsU, List.range_succ]
theorem cellsU_length (k : Nat) : (cellsU k).length = 2 * k := by
  induction k with
  | zero => rfl
  | succ k ih => rw [cellsU_succ]; simp [ih]; omega
set_option maxRecDepth 100000 in
set_option maxHeartbeats 4000000 in
theorem cells_any (w : World) : Calls Try.prog 79 #[] w fun e w' => ∃ v, e = .returned v ∧ OwnP w' w.heap.size v (cellsU 16) ∧ Below w.heap.size w w' := by
  go_enter Try.func79, Try.ntmps79
  go_wp2_with fail
  go_loopw [1, 4] (fun v1 v4 wr => ∃ k : Nat, k ≤ 16 ∧ v4 = .int .i64 k ∧ OwnP wr w.heap.size v1 (cellsU k) ∧ Below w.heap.size w wr)
    (fun _ v4 _ => 16 - (intOf v4).toNat)
  case atStart => exact ⟨0, by omega, rfl, ⟨0, rfl, own_empty (Nat.le_refl _) (by (repeat' (first | (with_reducible assumption) | ((with_reducible refine heap_new ?_); (focus ((try simp only [World.size_alloc, size_junk, size_setRow, Array.size_append]) <;> omega))) | ((with_reducible refine heap_old ?_ ?_); (focus ((try simp only [World.size_alloc, size_junk, size_setRow, Array.size_append]) <;> omega))) | ((with_reducible refine heap_junk ?_ ?_); (focus ((try simp only [World.size_alloc, size_junk, size_setRow, Array.size_append]) <;> omega))) | ((with_reducible apply heap_setRow_same)) | ((with_reducible refine heap_setRow_other ?_ ?_); (focus ((try simp only [World.size_alloc, size_junk, size_setRow, Array.size_append]) <;> omega))))))⟩, by (repeat' (first | (with_reducible exact RowKit.Below.refl _ _) | (with_reducible assumption) | (with_reducible refine Below.drewN ?_ _) | (with_reducible refine below_junk0 ?_ ?_ _ _) | (with_reducible refine RowKit.Below.alloc ?_ ?_ _) | (with_reducible refine below_setRow0 ?_ ?_) | (with_reducible refine RowKit.Below.setCell ?_ ?_ _) | (with_reducible refine RowKit.Below.drew ?_) | go_size | (simp only [size_junk]; go_size) | (simp only [World.size_alloc, size_junk, size_setRow]; omega) | omega))⟩
  case round =>
    obtain ⟨k, hk, rfl, hown, hbel⟩ := hrel
    have hlt := hbel.size
    rcases Nat.lt_or_ge k 16 with hk4 | hk4
    · go_wp2_with (at_builtin; go_must ((with_reducible apply appendP (B := w.heap.size)); (focus ((repeat' (first | (with_reducible assumption) | (with_reducible apply ownP_junk) | (with_reducible apply ownP_alloc))); done)); (focus with_unfolding_all exact rfl); (focus with_unfolding_all exact rfl); (focus ((repeat' (first | (with_reducible assumption) | ((with_reducible refine heap_new ?_); (focus ((try simp only [World.size_alloc, size_junk, size_setRow, Array.size_append]) <;> omega))) | ((with_reducible refine heap_old ?_ ?_); (focus ((try simp only [World.size_alloc, size_junk, size_setRow, Array.size_append]) <;> omega))) | ((with_reducible refine heap_junk ?_ ?_); (focus ((try simp only [World.size_alloc, size_junk, size_setRow, Array.size_append]) <;> omega))) | ((with_reducible apply heap_setRow_same)) | ((with_reducible refine heap_setRow_other ?_ ?_); (focus ((try simp only [World.size_alloc, size_junk, size_setRow, Array.size_append]) <;> omega))))); done)); (focus (rw [cellsU_length]; omega)); (focus ((try simp only [World.size_alloc, size_junk, size_setRow, Array.size_append]) <;> omega)); ((intro v1 w2 hown1 hb2); (have hbel1 : Below w.heap.size w w2 := Below.trans (by (repeat' (first | (with_reducible exact RowKit.Below.refl _ _) | (with_reducible assumption) | (with_reducible refine Below.drewN ?_ _) | (with_reducible refine below_junk0 ?_ ?_ _ _) | (with_reducible refine RowKit.Below.alloc ?_ ?_ _) | (with_reducible refine below_setRow0 ?_ ?_) | (with_reducible refine RowKit.Below.setCell ?_ ?_ _) | (with_reducible refine RowKit.Below.drew ?_) | go_size | (simp only [size_junk]; go_size) | (simp only [World.size_alloc, size_junk, size_setRow]; omega) | omega))) hb2); (clear hb2 hown hbel))))
      go_roundw
      case rel => exact ⟨k + 1, by omega, by go_num, by rw [cellsU_succ]; assumption, by assumption⟩
      case measure => simp [intOf]; omega
    · obtain rfl : k = 16 := by omega
      go_wp2
      go_ret
      exact ⟨_, rfl, hown, hbel⟩
end Go.Proofs.Ytgkfhppmopmgjaa

/- Walks of single functions of the given Go program, printed by a program of mine; each theorem says what the function returns. -/
import Derived.Test.YtgkfhppmopmgjaaRows
import Derived.WalkKit
import Derived.WalkSpells
import Derived.WalkLawsBesides
import Derived.Handy
import Derived.Deep.QuietTactic
import Derived.BigQuiet
import Derived.Lib.Hide
import Derived.Test.YtgkfhppmopmgjaaLines
import Derived.Deep.Cut
set_option linter.all false
namespace Go.Proofs.Ytgkfhppmopmgjaa
open Go.RowKit Pl Go.Lib Go.Shelf

set_option maxRecDepth 100000 in
set_option maxHeartbeats 4000000 in
theorem moved_0 (r c : Int) (w : World) (hr : 0 ≤ r ∧ r < 4) (hc : 0 ≤ c ∧ c < 4) : Calls Try.prog 81 #[.int .i64 0, .agg #[.int .i64 r, .int .i64 c]] w fun e w' => e = .returned (.agg #[.int .i64 r, .int .i64 c]) ∧ RowKit.Below w.heap.size w w' := by
  go_enter Try.func81, Try.ntmps81
  go_wp2_with fail
  refine wp_loop_rounds 5 ?_
  rw [rounds_succ]; go_wp2
  go_returns
  exact ⟨by first | rfl | (congr 3 <;> (congr 1 <;> omega)), by (repeat' (first | (with_reducible exact RowKit.Below.refl _ _) | (with_reducible assumption) | (with_reducible refine Below.drewN ?_ _) | (with_reducible refine below_junk0 ?_ ?_ _ _) | (with_reducible refine RowKit.Below.alloc ?_ ?_ _) | (with_reducible refine below_setRow0 ?_ ?_) | (with_reducible refine RowKit.Below.setCell ?_ ?_ _) | (with_reducible refine RowKit.Below.drew ?_) | go_size | (simp only [size_junk]; go_size) | (simp only [World.size_alloc, size_junk, size_setRow]; omega) | omega))⟩

set_option maxRecDepth 100000 in
set_option maxHeartbeats 4000000 in
theorem moved_1 (r c : Int) (w : World) (hr : 0 ≤ r ∧ r < 4) (hc : 0 ≤ c ∧ c < 4) : Calls Try.prog 81 #[.int .i64 1, .agg #[.int .i64 r, .int .i64 c]] w fun e w' => e = .returned (.agg #[.int .i64 c, .int .i64 (3 - r)]) ∧ RowKit.Below w.heap.size w w' := by
  go_enter Try.func81, Try.ntmps81
  go_wp2_with fail
  refine wp_loop_rounds 5 ?_
  rw [rounds_succ]; go_wp2
  rw [rounds_succ]; go_wp2
  go_returns
  exact ⟨by first | rfl | (congr 3 <;> (congr 1 <;> omega)), by (repeat' (first | (with_reducible exact RowKit.Below.refl _ _) | (with_reducible assumption) | (with_reducible refine Below.drewN ?_ _) | (with_reducible refine below_junk0 ?_ ?_ _ _) | (with_reducible refine RowKit.Below.alloc ?_ ?_ _) | (with_reducible refine below_setRow0 ?_ ?_) | (with_reducible refine RowKit.Below.setCell ?_ ?_ _) | (with_reducible refine RowKit.Below.drew ?_) | go_size | (simp only [size_junk]; go_size) | (simp only [World.size_alloc, size_junk, size_setRow]; omega) | omega))⟩

set_option maxRecDepth 100000 in
set_option maxHeartbeats 4000000 in
theorem moved_2 (r c : Int) (w : World) (hr : 0 ≤ r ∧ r < 4) (hc : 0 ≤ c ∧ c < 4) : Calls Try.prog 81 #[.int .i64 2, .agg #[.int .i64 r, .int .i64 c]] w fun e w' => e = .returned (.agg #[.int .i64 (3 - r), .int .i64 (3 - c)]) ∧ RowKit.Below w.heap.size w w' := by
  go_enter Try.func81, Try.ntmps81
  go_wp2_with fail
  refine wp_loop_rounds 5 ?_
  rw [rounds_succ]; go_wp2
  rw [rounds_succ]; go_wp2
  rw [rounds_succ]; go_wp2
  go_returns
  exact ⟨by first | rfl | (congr 3 <;> (congr 1 <;> omega)), by (repeat' (first | (with_reducible exact RowKit.Below.refl _ _) | (with_reducible assumption) | (with_reducible refine Below.drewN ?_ _) | (with_reducible refine below_junk0 ?_ ?_ _ _) | (with_reducible refine RowKit.Below.alloc ?_ ?_ _) | (with_reducible refine below_setRow0 ?_ ?_) | (with_reducible refine RowKit.Below.setCell ?_ ?_ _) | (with_reducible refine RowKit.Below.drew ?_) | go_size | (simp only [size_junk]; go_size) | (simp only [World.size_alloc, size_junk, size_setRow]; omega) | omega))⟩

set_option maxRecDepth 100000 in
set_option maxHeartbeats 4000000 in
theorem moved_3 (r c : Int) (w : World) (hr : 0 ≤ r ∧ r < 4) (hc : 0 ≤ c ∧ c < 4) : Calls Try.prog 81 #[.int .i64 3, .agg #[.int .i64 r, .int .i64 c]] w fun e w' => e = .returned (.agg #[.int .i64 (3 - c), .int .i64 (3 - (3 - r))]) ∧ RowKit.Below w.heap.size w w' := by
  go_enter Try.func81, Try.ntmps81
  go_wp2_with fail
  refine wp_loop_rounds 5 ?_
  rw [rounds_succ]; go_wp2
  rw [rounds_succ]; go_wp2
  rw [rounds_succ]; go_wp2
  rw [rounds_succ]; go_wp2
  go_returns
  exact ⟨by first | rfl | (congr 3 <;> (congr 1 <;> omega)), by (repeat' (first | (with_reducible exact RowKit.Below.refl _ _) | (with_reducible assumption) | (with_reducible refine Below.drewN ?_ _) | (with_reducible refine below_junk0 ?_ ?_ _ _) | (with_reducible refine RowKit.Below.alloc ?_ ?_ _) | (with_reducible refine below_setRow0 ?_ ?_) | (with_reducible refine RowKit.Below.setCell ?_ ?_ _) | (with_reducible refine RowKit.Below.drew ?_) | go_size | (simp only [size_junk]; go_size) | (simp only [World.size_alloc, size_junk, size_setRow]; omega) | omega))⟩

set_option maxRecDepth 100000 in
set_option maxHeartbeats 4000000 in
theorem moved_4 (r c : Int) (w : World) (hr : 0 ≤ r ∧ r < 4) (hc : 0 ≤ c ∧ c < 4) : Calls Try.prog 81 #[.int .i64 4, .agg #[.int .i64 r, .int .i64 c]] w fun e w' => e = .returned (.agg #[.int .i64 r, .int .i64 (3 - c)]) ∧ RowKit.Below w.heap.size w w' := by
  go_enter Try.func81, Try.ntmps81
  go_wp2_with fail
  refine wp_loop_rounds 5 ?_
  rw [rounds_succ]; go_wp2
  go_returns
  exact ⟨by first | rfl | (congr 3 <;> (congr 1 <;> omega)), by (repeat' (first | (with_reducible exact RowKit.Below.refl _ _) | (with_reducible assumption) | (with_reducible refine Below.drewN ?_ _) | (with_reducible refine below_junk0 ?_ ?_ _ _) | (with_reducible refine RowKit.Below.alloc ?_ ?_ _) | (with_reducible refine below_setRow0 ?_ ?_) | (with_reducible refine RowKit.Below.setCell ?_ ?_ _) | (with_reducible refine RowKit.Below.drew ?_) | go_size | (simp only [size_junk]; go_size) | (simp only [World.size_alloc, size_junk, size_setRow]; omega) | omega))⟩

set_option maxRecDepth 100000 in
set_option maxHeartbeats 4000000 in
theorem moved_5 (r c : Int) (w : World) (hr : 0 ≤ r ∧ r < 4) (hc : 0 ≤ c ∧ c < 4) : Calls Try.prog 81 #[.int .i64 5, .agg #[.int .i64 r, .int .i64 c]] w fun e w' => e = .returned (.agg #[.int .i64 c, .int .i64 (3 - (3 - r))]) ∧ RowKit.Below w.heap.size w w' := by
  go_enter Try.func81, Try.ntmps81
  go_wp2_with fail
  refine wp_loop_rounds 5 ?_
  rw [rounds_succ]; go_wp2
  rw [rounds_succ]; go_wp2
  go_returns
  exact ⟨by first | rfl | (congr 3 <;> (congr 1 <;> omega)), by (repeat' (first | (with_reducible exact RowKit.Below.refl _ _) | (with_reducible assumption) | (with_reducible refine Below.drewN ?_ _) | (with_reducible refine below_junk0 ?_ ?_ _ _) | (with_reducible refine RowKit.Below.alloc ?_ ?_ _) | (with_reducible refine below_setRow0 ?_ ?_) | (with_reducible refine RowKit.Below.setCell ?_ ?_ _) | (with_reducible refine RowKit.Below.drew ?_) | go_size | (simp only [size_junk]; go_size) | (simp only [World.size_alloc, size_junk, size_setRow]; omega) | omega))⟩

set_option maxRecDepth 100000 in
set_option maxHeartbeats 4000000 in
theorem moved_6 (r c : Int) (w : World) (hr : 0 ≤ r ∧ r < 4) (hc : 0 ≤ c ∧ c < 4) : Calls Try.prog 81 #[.int .i64 6, .agg #[.int .i64 r, .int .i64 c]] w fun e w' => e = .returned (.agg #[.int .i64 (3 - r), .int .i64 (3 - (3 - c))]) ∧ RowKit.Below w.heap.size w w' := by
  go_enter Try.func81, Try.ntmps81
  go_wp2_with fail
  refine wp_loop_rounds 5 ?_
  rw [rounds_succ]; go_wp2
  rw [rounds_succ]; go_wp2
  rw [rounds_succ]; go_wp2
  go_returns
  exact ⟨by first | rfl | (congr 3 <;> (congr 1 <;> omega)), by (repeat' (first | (with_reducible exact RowKit.Below.refl _ _) | (with_reducible assumption) | (with_reducible refine Below.drewN ?_ _) | (with_reducible refine below_junk0 ?_ ?_ _ _) | (with_reducible refine RowKit.Below.alloc ?_ ?_ _) | (with_reducible refine below_setRow0 ?_ ?_) | (with_reducible refine RowKit.Below.setCell ?_ ?_ _) | (with_reducible refine RowKit.Below.drew ?_) | go_size | (simp only [size_junk]; go_size) | (simp only [World.size_alloc, size_junk, size_setRow]; omega) | omega))⟩

set_option maxRecDepth 100000 in
set_option maxHeartbeats 4000000 in
theorem moved_7 (r c : Int) (w : World) (hr : 0 ≤ r ∧ r < 4) (hc : 0 ≤ c ∧ c < 4) : Calls Try.prog 81 #[.int .i64 7, .agg #[.int .i64 r, .int .i64 c]] w fun e w' => e = .returned (.agg #[.int .i64 (3 - c), .int .i64 (3 - (3 - (3 - r)))]) ∧ RowKit.Below w.heap.size w w' := by
  go_enter Try.func81, Try.ntmps81
  go_wp2_with fail
  refine wp_loop_rounds 5 ?_
  rw [rounds_succ]; go_wp2
  rw [rounds_succ]; go_wp2
  rw [rounds_succ]; go_wp2
  rw [rounds_succ]; go_wp2
  go_returns
  exact ⟨by first | rfl | (congr 3 <;> (congr 1 <;> omega)), by (repeat' (first | (with_reducible exact RowKit.Below.refl _ _) | (with_reducible assumption) | (with_reducible refine Below.drewN ?_ _) | (with_reducible refine below_junk0 ?_ ?_ _ _) | (with_reducible refine RowKit.Below.alloc ?_ ?_ _) | (with_reducible refine below_setRow0 ?_ ?_) | (with_reducible refine RowKit.Below.setCell ?_ ?_ _) | (with_reducible refine RowKit.Below.drew ?_) | go_size | (simp only [size_junk]; go_size) | (simp only [World.size_alloc, size_junk, size_setRow]; omega) | omega))⟩
end Go.Proofs.Ytgkfhppmopmgjaa

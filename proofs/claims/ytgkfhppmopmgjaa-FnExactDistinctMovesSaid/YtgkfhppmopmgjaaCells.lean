/- Walks of single functions of the given Go program, printed by a program of mine; each theorem says what the function returns. -/
import Derived.Test.YtgkfhppmopmgjaaRows
import Derived.WalkKit
import Derived.WalkSpells
import Derived.WalkLawsBesides
import Derived.Handy
import Derived.Deep.QuietTactic
import Derived.BigQuiet
import Derived.Lib.Hide
import Derived.Test.YtgkfhppmopmgjaaJunk
import Derived.Test.YtgkfhppmopmgjaaTail
set_option linter.all false
namespace Go.Proofs.Ytgkfhppmopmgjaa
open Go.RowKit Pl

set_option maxHeartbeats 4000000 in
theorem at_any (b : Nat) (r c : Int) (w : World) (hr : 0 ≤ r ∧ r < 4) (hc : 0 ≤ c ∧ c < 4) :
    Calls Try.prog 80 #[.pointer (some ⟨b, 0, none⟩), .agg #[.int .i64 r, .int .i64 c]] w fun e w' => e = .returned (.pointer (some ⟨b, (4 * r + c).toNat, none⟩)) ∧ RowKit.Below w.heap.size w w' := by
  obtain ⟨n, rfl⟩ := Int.eq_ofNat_of_zero_le hr.1
  obtain ⟨m, rfl⟩ := Int.eq_ofNat_of_zero_le hc.1
  have hn : n < 4 := by omega
  have hm : m < 4 := by omega
  clear hr hc
  match n, hn with
  | 0, _ =>
    match m, hm with
    | 0, _ =>
      show Calls Try.prog 80 #[.pointer (some ⟨b, 0, none⟩), .agg #[.int .i64 0, .int .i64 0]] w _
      go_enter Try.func80, Try.ntmps80
      go_wp2_with (go_quiet (fail))
      go_returns
      exact ⟨rfl, by (repeat' (first | (with_reducible exact RowKit.Below.refl _ _) | (with_reducible assumption) | (with_reducible refine Below.drewN ?_ _) | (with_reducible refine below_junk0 ?_ ?_ _ _) | (with_reducible refine RowKit.Below.alloc ?_ ?_ _) | (with_reducible refine RowKit.Below.setCell ?_ ?_ _) | (with_reducible refine RowKit.Below.drew ?_) | go_size | (simp only [size_junk]; go_size) | (simp only [World.size_alloc, size_junk, size_setRow]; omega)))⟩
    | 1, _ =>
      show Calls Try.prog 80 #[.pointer (some ⟨b, 0, none⟩), .agg #[.int .i64 0, .int .i64 1]] w _
      go_enter Try.func80, Try.ntmps80
      go_wp2_with (go_quiet (fail))
      go_returns
      exact ⟨rfl, by (repeat' (first | (with_reducible exact RowKit.Below.refl _ _) | (with_reducible assumption) | (with_reducible refine Below.drewN ?_ _) | (with_reducible refine below_junk0 ?_ ?_ _ _) | (with_reducible refine RowKit.Below.alloc ?_ ?_ _) | (with_reducible refine RowKit.Below.setCell ?_ ?_ _) | (with_reducible refine RowKit.Below.drew ?_) | go_size | (simp only [size_junk]; go_size) | (simp only [World.size_alloc, size_junk, size_setRow]; omega)))⟩
    | 2, _ =>
      show Calls Try.prog 80 #[.pointer (some ⟨b, 0, none⟩), .agg #[.int .i64 0, .int .i64 2]] w _
      go_enter Try.func80, Try.ntmps80
      go_wp2_with (go_quiet (fail))
      go_returns
      exact ⟨rfl, by (repeat' (first | (with_reducible exact RowKit.Below.refl _ _) | (with_reducible assumption) | (with_reducible refine Below.drewN ?_ _) | (with_reducible refine below_junk0 ?_ ?_ _ _) | (with_reducible refine RowKit.Below.alloc ?_ ?_ _) | (with_reducible refine RowKit.Below.setCell ?_ ?_ _) | (with_reducible refine RowKit.Below.drew ?_) | go_size | (simp only [size_junk]; go_size) | (simp only [World.size_alloc, size_junk, size_setRow]; omega)))⟩
    | 3, _ =>
      show Calls Try.prog 80 #[.pointer (some ⟨b, 0, none⟩), .agg #[.int .i64 0, .int .i64 3]] w _
      go_enter Try.func80, Try.ntmps80
      go_wp2_with (go_quiet (fail))
      go_returns
      exact ⟨rfl, by (repeat' (first | (with_reducible exact RowKit.Below.refl _ _) | (with_reducible assumption) | (with_reducible refine Below.drewN ?_ _) | (with_reducible refine below_junk0 ?_ ?_ _ _) | (with_reducible refine RowKit.Below.alloc ?_ ?_ _) | (with_reducible refine RowKit.Below.setCell ?_ ?_ _) | (with_reducible refine RowKit.Below.drew ?_) | go_size | (simp only [size_junk]; go_size) | (simp only [World.size_alloc, size_junk, size_setRow]; omega)))⟩
  | 1, _ =>
    match m, hm with
    | 0, _ =>
      show Calls Try.prog 80 #[.pointer (some ⟨b, 0, none⟩), .agg #[.int .i64 1, .int .i64 0]] w _
      go_enter Try.func80, Try.ntmps80
      go_wp2_with (go_quiet (fail))
      go_returns
      exact ⟨rfl, by (repeat' (first | (with_reducible exact RowKit.Below.refl _ _) | (with_reducible assumption) | (with_reducible refine Below.drewN ?_ _) | (with_reducible refine below_junk0 ?_ ?_ _ _) | (with_reducible refine RowKit.Below.alloc ?_ ?_ _) | (with_reducible refine RowKit.Below.setCell ?_ ?_ _) | (with_reducible refine RowKit.Below.drew ?_) | go_size | (simp only [size_junk]; go_size) | (simp only [World.size_alloc, size_junk, size_setRow]; omega)))⟩
    | 1, _ =>
      show Calls Try.prog 80 #[.pointer (some ⟨b, 0, none⟩), .agg #[.int .i64 1, .int .i64 1]] w _
      go_enter Try.func80, Try.ntmps80
      go_wp2_with (go_quiet (fail))
      go_returns
      exact ⟨rfl, by (repeat' (first | (with_reducible exact RowKit.Below.refl _ _) | (with_reducible assumption) | (with_reducible refine Below.drewN ?_ _) | (with_reducible refine below_junk0 ?_ ?_ _ _) | (with_reducible refine RowKit.Below.alloc ?_ ?_ _) | (with_reducible refine RowKit.Below.setCell ?_ ?_ _) | (with_reducible refine RowKit.Below.drew ?_) | go_size | (simp only [size_junk]; go_size) | (simp only [World.size_alloc, size_junk, size_setRow]; omega)))⟩
    | 2, _ =>
      show Calls Try.prog 80 #[.pointer (some ⟨b, 0, none⟩), .agg #[.int .i64 1, .int .i64 2]] w _
      go_enter Try.func80, Try.ntmps80
      go_wp2_with (go_quiet (fail))
      go_returns
      exact ⟨rfl, by (repeat' (first | (with_reducible exact RowKit.Below.refl _ _) | (with_reducible assumption) | (with_reducible refine Below.drewN ?_ _) | (with_reducible refine below_junk0 ?_ ?_ _ _) | (with_reducible refine RowKit.Below.alloc ?_ ?_ _) | (with_reducible refine RowKit.Below.setCell ?_ ?_ _) | (with_reducible refine RowKit.Below.drew ?_) | go_size | (simp only [size_junk]; go_size) | (simp only [World.size_alloc, size_junk, size_setRow]; omega)))⟩
    | 3, _ =>
      show Calls Try.prog 80 #[.pointer (some ⟨b, 0, none⟩), .agg #[.int .i64 1, .int .i64 3]] w _
      go_enter Try.func80, Try.ntmps80
      go_wp2_with (go_quiet (fail))
      go_returns
      exact ⟨rfl, by (repeat' (first | (with_reducible exact RowKit.Below.refl _ _) | (with_reducible assumption) | (with_reducible refine Below.drewN ?_ _) | (with_reducible refine below_junk0 ?_ ?_ _ _) | (with_reducible refine RowKit.Below.alloc ?_ ?_ _) | (with_reducible refine RowKit.Below.setCell ?_ ?_ _) | (with_reducible refine RowKit.Below.drew ?_) | go_size | (simp only [size_junk]; go_size) | (simp only [World.size_alloc, size_junk, size_setRow]; omega)))⟩
  | 2, _ =>
    match m, hm with
    | 0, _ =>
      show Calls Try.prog 80 #[.pointer (some ⟨b, 0, none⟩), .agg #[.int .i64 2, .int .i64 0]] w _
      go_enter Try.func80, Try.ntmps80
      go_wp2_with (go_quiet (fail))
      go_returns
      exact ⟨rfl, by (repeat' (first | (with_reducible exact RowKit.Below.refl _ _) | (with_reducible assumption) | (with_reducible refine Below.drewN ?_ _) | (with_reducible refine below_junk0 ?_ ?_ _ _) | (with_reducible refine RowKit.Below.alloc ?_ ?_ _) | (with_reducible refine RowKit.Below.setCell ?_ ?_ _) | (with_reducible refine RowKit.Below.drew ?_) | go_size | (simp only [size_junk]; go_size) | (simp only [World.size_alloc, size_junk, size_setRow]; omega)))⟩
    | 1, _ =>
      show Calls Try.prog 80 #[.pointer (some ⟨b, 0, none⟩), .agg #[.int .i64 2, .int .i64 1]] w _
      go_enter Try.func80, Try.ntmps80
      go_wp2_with (go_quiet (fail))
      go_returns
      exact ⟨rfl, by (repeat' (first | (with_reducible exact RowKit.Below.refl _ _) | (with_reducible assumption) | (with_reducible refine Below.drewN ?_ _) | (with_reducible refine below_junk0 ?_ ?_ _ _) | (with_reducible refine RowKit.Below.alloc ?_ ?_ _) | (with_reducible refine RowKit.Below.setCell ?_ ?_ _) | (with_reducible refine RowKit.Below.drew ?_) | go_size | (simp only [size_junk]; go_size) | (simp only [World.size_alloc, size_junk, size_setRow]; omega)))⟩
    | 2, _ =>
      show Calls Try.prog 80 #[.pointer (some ⟨b, 0, none⟩), .agg #[.int .i64 2, .int .i64 2]] w _
      go_enter Try.func80, Try.ntmps80
      go_wp2_with (go_quiet (fail))
      go_returns
      exact ⟨rfl, by (repeat' (first | (with_reducible exact RowKit.Below.refl _ _) | (with_reducible assumption) | (with_reducible refine Below.drewN ?_ _) | (with_reducible refine below_junk0 ?_ ?_ _ _) | (with_reducible refine RowKit.Below.alloc ?_ ?_ _) | (with_reducible refine RowKit.Below.setCell ?_ ?_ _) | (with_reducible refine RowKit.Below.drew ?_) | go_size | (simp only [size_junk]; go_size) | (simp only [World.size_alloc, size_junk, size_setRow]; omega)))⟩
    | 3, _ =>
      show Calls Try.prog 80 #[.pointer (some ⟨b, 0, none⟩), .agg #[.int .i64 2, .int .i64 3]] w _
      go_enter Try.func80, Try.ntmps80
      go_wp2_with (go_quiet (fail))
      go_returns
      exact ⟨rfl, by (repeat' (first | (with_reducible exact RowKit.Below.refl _ _) | (with_reducible assumption) | (with_reducible refine Below.drewN ?_ _) | (with_reducible refine below_junk0 ?_ ?_ _ _) | (with_reducible refine RowKit.Below.alloc ?_ ?_ _) | (with_reducible refine RowKit.Below.setCell ?_ ?_ _) | (with_reducible refine RowKit.Below.drew ?_) | go_size | (simp only [size_junk]; go_size) | (simp only [World.size_alloc, size_junk, size_setRow]; omega)))⟩
  | 3, _ =>
    match m, hm with
    | 0, _ =>
      show Calls Try.prog 80 #[.pointer (some ⟨b, 0, none⟩), .agg #[.int .i64 3, .int .i64 0]] w _
      go_enter Try.func80, Try.ntmps80
      go_wp2_with (go_quiet (fail))
      go_returns
      exact ⟨rfl, by (repeat' (first | (with_reducible exact RowKit.Below.refl _ _) | (with_reducible assumption) | (with_reducible refine Below.drewN ?_ _) | (with_reducible refine below_junk0 ?_ ?_ _ _) | (with_reducible refine RowKit.Below.alloc ?_ ?_ _) | (with_reducible refine RowKit.Below.setCell ?_ ?_ _) | (with_reducible refine RowKit.Below.drew ?_) | go_size | (simp only [size_junk]; go_size) | (simp only [World.size_alloc, size_junk, size_setRow]; omega)))⟩
    | 1, _ =>
      show Calls Try.prog 80 #[.pointer (some ⟨b, 0, none⟩), .agg #[.int .i64 3, .int .i64 1]] w _
      go_enter Try.func80, Try.ntmps80
      go_wp2_with (go_quiet (fail))
      go_returns
      exact ⟨rfl, by (repeat' (first | (with_reducible exact RowKit.Below.refl _ _) | (with_reducible assumption) | (with_reducible refine Below.drewN ?_ _) | (with_reducible refine below_junk0 ?_ ?_ _ _) | (with_reducible refine RowKit.Below.alloc ?_ ?_ _) | (with_reducible refine RowKit.Below.setCell ?_ ?_ _) | (with_reducible refine RowKit.Below.drew ?_) | go_size | (simp only [size_junk]; go_size) | (simp only [World.size_alloc, size_junk, size_setRow]; omega)))⟩
    | 2, _ =>
      show Calls Try.prog 80 #[.pointer (some ⟨b, 0, none⟩), .agg #[.int .i64 3, .int .i64 2]] w _
      go_enter Try.func80, Try.ntmps80
      go_wp2_with (go_quiet (fail))
      go_returns
      exact ⟨rfl, by (repeat' (first | (with_reducible exact RowKit.Below.refl _ _) | (with_reducible assumption) | (with_reducible refine Below.drewN ?_ _) | (with_reducible refine below_junk0 ?_ ?_ _ _) | (with_reducible refine RowKit.Below.alloc ?_ ?_ _) | (with_reducible refine RowKit.Below.setCell ?_ ?_ _) | (with_reducible refine RowKit.Below.drew ?_) | go_size | (simp only [size_junk]; go_size) | (simp only [World.size_alloc, size_junk, size_setRow]; omega)))⟩
    | 3, _ =>
      show Calls Try.prog 80 #[.pointer (some ⟨b, 0, none⟩), .agg #[.int .i64 3, .int .i64 3]] w _
      go_enter Try.func80, Try.ntmps80
      go_wp2_with (go_quiet (fail))
      go_returns
      exact ⟨rfl, by (repeat' (first | (with_reducible exact RowKit.Below.refl _ _) | (with_reducible assumption) | (with_reducible refine Below.drewN ?_ _) | (with_reducible refine below_junk0 ?_ ?_ _ _) | (with_reducible refine RowKit.Below.alloc ?_ ?_ _) | (with_reducible refine RowKit.Below.setCell ?_ ?_ _) | (with_reducible refine RowKit.Below.drew ?_) | go_size | (simp only [size_junk]; go_size) | (simp only [World.size_alloc, size_junk, size_setRow]; omega)))⟩

set_option maxHeartbeats 4000000 in
theorem lineCell_0 (i k : Int) (w : World) (_hk : 0 ≤ k ∧ k < 4) :
    Calls Try.prog 87 #[.int .i64 0, .int .i64 i, .int .i64 k] w fun e w' => e = .returned (.agg #[.int .i64 (i), .int .i64 (k)]) ∧ RowKit.Below w.heap.size w w' := by
  go_enter Try.func87, Try.ntmps87
  go_wp2
  go_returns
  exact ⟨rfl, by (repeat' (first | (with_reducible exact RowKit.Below.refl _ _) | (with_reducible assumption) | (with_reducible refine Below.drewN ?_ _) | (with_reducible refine below_junk0 ?_ ?_ _ _) | (with_reducible refine RowKit.Below.alloc ?_ ?_ _) | (with_reducible refine RowKit.Below.setCell ?_ ?_ _) | (with_reducible refine RowKit.Below.drew ?_) | go_size | (simp only [size_junk]; go_size) | (simp only [World.size_alloc, size_junk, size_setRow]; omega)))⟩

set_option maxHeartbeats 4000000 in
theorem lineCell_1 (i k : Int) (w : World) (_hk : 0 ≤ k ∧ k < 4) :
    Calls Try.prog 87 #[.int .i64 1, .int .i64 i, .int .i64 k] w fun e w' => e = .returned (.agg #[.int .i64 (k), .int .i64 (i)]) ∧ RowKit.Below w.heap.size w w' := by
  go_enter Try.func87, Try.ntmps87
  go_wp2
  go_returns
  exact ⟨rfl, by (repeat' (first | (with_reducible exact RowKit.Below.refl _ _) | (with_reducible assumption) | (with_reducible refine Below.drewN ?_ _) | (with_reducible refine below_junk0 ?_ ?_ _ _) | (with_reducible refine RowKit.Below.alloc ?_ ?_ _) | (with_reducible refine RowKit.Below.setCell ?_ ?_ _) | (with_reducible refine RowKit.Below.drew ?_) | go_size | (simp only [size_junk]; go_size) | (simp only [World.size_alloc, size_junk, size_setRow]; omega)))⟩

set_option maxHeartbeats 4000000 in
theorem lineCell_2 (i k : Int) (w : World) (_hk : 0 ≤ k ∧ k < 4) :
    Calls Try.prog 87 #[.int .i64 2, .int .i64 i, .int .i64 k] w fun e w' => e = .returned (.agg #[.int .i64 (i), .int .i64 (3 - k)]) ∧ RowKit.Below w.heap.size w w' := by
  go_enter Try.func87, Try.ntmps87
  go_wp2
  go_returns
  exact ⟨rfl, by (repeat' (first | (with_reducible exact RowKit.Below.refl _ _) | (with_reducible assumption) | (with_reducible refine Below.drewN ?_ _) | (with_reducible refine below_junk0 ?_ ?_ _ _) | (with_reducible refine RowKit.Below.alloc ?_ ?_ _) | (with_reducible refine RowKit.Below.setCell ?_ ?_ _) | (with_reducible refine RowKit.Below.drew ?_) | go_size | (simp only [size_junk]; go_size) | (simp only [World.size_alloc, size_junk, size_setRow]; omega)))⟩

set_option maxHeartbeats 4000000 in
theorem lineCell_3 (i k : Int) (w : World) (_hk : 0 ≤ k ∧ k < 4) :
    Calls Try.prog 87 #[.int .i64 3, .int .i64 i, .int .i64 k] w fun e w' => e = .returned (.agg #[.int .i64 (3 - k), .int .i64 (i)]) ∧ RowKit.Below w.heap.size w w' := by
  go_enter Try.func87, Try.ntmps87
  go_wp2
  go_returns
  exact ⟨rfl, by (repeat' (first | (with_reducible exact RowKit.Below.refl _ _) | (with_reducible assumption) | (with_reducible refine Below.drewN ?_ _) | (with_reducible refine below_junk0 ?_ ?_ _ _) | (with_reducible refine RowKit.Below.alloc ?_ ?_ _) | (with_reducible refine RowKit.Below.setCell ?_ ?_ _) | (with_reducible refine RowKit.Below.drew ?_) | go_size | (simp only [size_junk]; go_size) | (simp only [World.size_alloc, size_junk, size_setRow]; omega)))⟩
end Go.Proofs.Ytgkfhppmopmgjaa

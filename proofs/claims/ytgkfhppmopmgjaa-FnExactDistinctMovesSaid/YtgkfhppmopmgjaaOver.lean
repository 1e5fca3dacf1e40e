/- Walks of single functions of the given Go program, printed by a program of mine; each theorem says what the function returns. -/
import Derived.Test.YtgkfhppmopmgjaaRows
import Derived.WalkKit
import Derived.WalkSpells
import Derived.WalkLawsBesides
import Derived.Handy
import Derived.Deep.QuietTactic
import Derived.BigQuiet
import Derived.Lib.Hide
import Derived.Test.YtgkfhppmopmgjaaHelps
import Derived.Test.YtgkfhppmopmgjaaMoves
import Derived.Test.YtgkfhppmopmgjaaValid
import Derived.Deep.Cut
set_option linter.all false
namespace Go.Proofs.Ytgkfhppmopmgjaa
open Go.RowKit Pl Go.Lib Go.Shelf

theorem l2Board_list (b : List Int) (hb : b.length = 16) (w : World) : Calls Try.prog 33 #[aggB b] w fun e w' => e = .returned (.bool (okB b)) ∧ RowKit.Below w.heap.size w w' := by
  obtain ⟨x0, x1, x2, x3, x4, x5, x6, x7, x8, x9, x10, x11, x12, x13, x14, x15, rfl⟩ := len16 b hb
  exact l2Board_any _ _ _ _ _ _ _ _ _ _ _ _ _ _ _ _ w
theorem IsBoard_list (b : List Int) (hb : b.length = 16) (w : World) : Calls Try.prog 36 #[aggB b] w fun e w' => e = .returned (.bool (okB b)) ∧ RowKit.Below w.heap.size w w' := by
  obtain ⟨x0, x1, x2, x3, x4, x5, x6, x7, x8, x9, x10, x11, x12, x13, x14, x15, rfl⟩ := len16 b hb
  exact IsBoard_any _ _ _ _ _ _ _ _ _ _ _ _ _ _ _ _ w
def overB (b : List Int) : Bool := ((movesB b).length : Int) == 0

set_option maxRecDepth 100000 in
set_option maxHeartbeats 4000000 in
theorem specIsOver_any (b : List Int) (hb : b.length = 16) (w : World) : Calls Try.prog 10 #[aggB b] w fun e w' => e = .returned (.tuple #[.bool (okB b && overB b), .bool (okB b)]) ∧ RowKit.Below w.heap.size w w' := by
  cases hok : okB b with
  | false =>
    go_enter Try.func10, Try.ntmps10
    go_wp2_with (first | ((with_reducible apply loadB (n := 16) (ty := 28) Try.underlying28); (focus with_unfolding_all exact rfl); (focus ((repeat' (first | (with_reducible assumption) | ((with_reducible refine heap_new ?_); (focus ((try simp only [World.size_alloc, size_junk, size_setRow, Array.size_append]) <;> omega))) | ((with_reducible refine heap_old ?_ ?_); (focus ((try simp only [World.size_alloc, size_junk, size_setRow, Array.size_append]) <;> omega))) | ((with_reducible refine heap_junk ?_ ?_); (focus ((try simp only [World.size_alloc, size_junk, size_setRow, Array.size_append]) <;> omega))) | ((with_reducible apply heap_setRow_same)) | ((with_reducible refine heap_setRow_other ?_ ?_); (focus ((try simp only [World.size_alloc, size_junk, size_setRow, Array.size_append]) <;> omega))))); done)); (focus rfl); (focus kernel_rfl); (focus (first | (with_reducible assumption) | (with_reducible rfl) | (simp only [slideB_length, putL_length, rowOut_length, lineB_length, madeB_length, *]; done)))) | (go_at_call 33; refine (l2Board_list b hb _).mono ?_; rintro e w1 ⟨rfl, hb1⟩; obtain ⟨_, _, rfl⟩ := junk_of_below hb1; clear hb1))
    go_ret2
    exact ⟨rfl, by (repeat' (first | (with_reducible exact RowKit.Below.refl _ _) | (with_reducible assumption) | (with_reducible refine Below.drewN ?_ _) | (with_reducible refine below_junk0 ?_ ?_ _ _) | (with_reducible refine RowKit.Below.alloc ?_ ?_ _) | (with_reducible refine below_setRow0 ?_ ?_) | (with_reducible refine RowKit.Below.setCell ?_ ?_ _) | (with_reducible refine RowKit.Below.drew ?_) | go_size | (simp only [size_junk]; go_size) | (simp only [World.size_alloc, size_junk, size_setRow]; omega) | omega))⟩
  | true =>
    have ok : okL b := (okB_iff b).1 hok
    simp only [Bool.true_and]
    go_enter Try.func10, Try.ntmps10
    go_wp2_with (first | ((with_reducible apply loadB (n := 16) (ty := 28) Try.underlying28); (focus with_unfolding_all exact rfl); (focus ((repeat' (first | (with_reducible assumption) | ((with_reducible refine heap_new ?_); (focus ((try simp only [World.size_alloc, size_junk, size_setRow, Array.size_append]) <;> omega))) | ((with_reducible refine heap_old ?_ ?_); (focus ((try simp only [World.size_alloc, size_junk, size_setRow, Array.size_append]) <;> omega))) | ((with_reducible refine heap_junk ?_ ?_); (focus ((try simp only [World.size_alloc, size_junk, size_setRow, Array.size_append]) <;> omega))) | ((with_reducible apply heap_setRow_same)) | ((with_reducible refine heap_setRow_other ?_ ?_); (focus ((try simp only [World.size_alloc, size_junk, size_setRow, Array.size_append]) <;> omega))))); done)); (focus rfl); (focus kernel_rfl); (focus (first | (with_reducible assumption) | (with_reducible rfl) | (simp only [slideB_length, putL_length, rowOut_length, lineB_length, madeB_length, *]; done)))) | (go_at_call 33; refine (l2Board_list b hb _).mono ?_; rintro e w1 ⟨rfl, hb1⟩; obtain ⟨_, _, rfl⟩ := junk_of_below hb1; clear hb1) | (go_at_call 34; refine (l2Moves_any b hb ok _).mono ?_; rintro e w1 ⟨v, rfl, hown, hb1⟩; obtain ⟨av, cv, rfl⟩ := own_shape hown; clear hown; obtain ⟨_, _, rfl⟩ := junk_of_below hb1; clear hb1))
    go_ret2
    exact ⟨rfl, by (repeat' (first | (with_reducible exact RowKit.Below.refl _ _) | (with_reducible assumption) | (with_reducible refine Below.drewN ?_ _) | (with_reducible refine below_junk0 ?_ ?_ _ _) | (with_reducible refine RowKit.Below.alloc ?_ ?_ _) | (with_reducible refine below_setRow0 ?_ ?_) | (with_reducible refine RowKit.Below.setCell ?_ ?_ _) | (with_reducible refine RowKit.Below.drew ?_) | go_size | (simp only [size_junk]; go_size) | (simp only [World.size_alloc, size_junk, size_setRow]; omega) | omega))⟩

set_option maxRecDepth 100000 in
set_option maxHeartbeats 4000000 in
theorem implIsOverIn_any (b : List Int) (hb : b.length = 16) (ok : okL b) (w : World) : Calls Try.prog 37 #[aggB b] w fun e w' => e = .returned (.bool (overB b)) ∧ RowKit.Below w.heap.size w w' := by
  go_enter Try.func37, Try.ntmps37
  go_wp2_with (first | ((with_reducible apply loadB (n := 16) (ty := 28) Try.underlying28); (focus with_unfolding_all exact rfl); (focus ((repeat' (first | (with_reducible assumption) | ((with_reducible refine heap_new ?_); (focus ((try simp only [World.size_alloc, size_junk, size_setRow, Array.size_append]) <;> omega))) | ((with_reducible refine heap_old ?_ ?_); (focus ((try simp only [World.size_alloc, size_junk, size_setRow, Array.size_append]) <;> omega))) | ((with_reducible refine heap_junk ?_ ?_); (focus ((try simp only [World.size_alloc, size_junk, size_setRow, Array.size_append]) <;> omega))) | ((with_reducible apply heap_setRow_same)) | ((with_reducible refine heap_setRow_other ?_ ?_); (focus ((try simp only [World.size_alloc, size_junk, size_setRow, Array.size_append]) <;> omega))))); done)); (focus rfl); (focus kernel_rfl); (focus (first | (with_reducible assumption) | (with_reducible rfl) | (simp only [slideB_length, putL_length, rowOut_length, lineB_length, madeB_length, *]; done)))) | (go_at_call 41; refine (moves_any b hb ok _).mono ?_; rintro e w1 ⟨v, rfl, hown, hb1⟩; obtain ⟨av, cv, rfl⟩ := own_shape hown; clear hown; obtain ⟨_, _, rfl⟩ := junk_of_below hb1; clear hb1))
  go_ret
  exact ⟨rfl, by (repeat' (first | (with_reducible exact RowKit.Below.refl _ _) | (with_reducible assumption) | (with_reducible refine Below.drewN ?_ _) | (with_reducible refine below_junk0 ?_ ?_ _ _) | (with_reducible refine RowKit.Below.alloc ?_ ?_ _) | (with_reducible refine below_setRow0 ?_ ?_) | (with_reducible refine RowKit.Below.setCell ?_ ?_ _) | (with_reducible refine RowKit.Below.drew ?_) | go_size | (simp only [size_junk]; go_size) | (simp only [World.size_alloc, size_junk, size_setRow]; omega) | omega))⟩

set_option maxRecDepth 100000 in
set_option maxHeartbeats 4000000 in
theorem implIsOver_any (b : List Int) (hb : b.length = 16) (w : World) : Calls Try.prog 12 #[aggB b] w fun e w' => e = .returned (.tuple #[.bool (okB b && overB b), .bool (okB b)]) ∧ RowKit.Below w.heap.size w w' := by
  cases hok : okB b with
  | false =>
    go_enter Try.func12, Try.ntmps12
    go_wp2_with (first | ((with_reducible apply loadB (n := 16) (ty := 28) Try.underlying28); (focus with_unfolding_all exact rfl); (focus ((repeat' (first | (with_reducible assumption) | ((with_reducible refine heap_new ?_); (focus ((try simp only [World.size_alloc, size_junk, size_setRow, Array.size_append]) <;> omega))) | ((with_reducible refine heap_old ?_ ?_); (focus ((try simp only [World.size_alloc, size_junk, size_setRow, Array.size_append]) <;> omega))) | ((with_reducible refine heap_junk ?_ ?_); (focus ((try simp only [World.size_alloc, size_junk, size_setRow, Array.size_append]) <;> omega))) | ((with_reducible apply heap_setRow_same)) | ((with_reducible refine heap_setRow_other ?_ ?_); (focus ((try simp only [World.size_alloc, size_junk, size_setRow, Array.size_append]) <;> omega))))); done)); (focus rfl); (focus kernel_rfl); (focus (first | (with_reducible assumption) | (with_reducible rfl) | (simp only [slideB_length, putL_length, rowOut_length, lineB_length, madeB_length, *]; done)))) | (go_at_call 36; refine (IsBoard_list b hb _).mono ?_; rintro e w1 ⟨rfl, hb1⟩; obtain ⟨_, _, rfl⟩ := junk_of_below hb1; clear hb1))
    go_ret2
    exact ⟨rfl, by (repeat' (first | (with_reducible exact RowKit.Below.refl _ _) | (with_reducible assumption) | (with_reducible refine Below.drewN ?_ _) | (with_reducible refine below_junk0 ?_ ?_ _ _) | (with_reducible refine RowKit.Below.alloc ?_ ?_ _) | (with_reducible refine below_setRow0 ?_ ?_) | (with_reducible refine RowKit.Below.setCell ?_ ?_ _) | (with_reducible refine RowKit.Below.drew ?_) | go_size | (simp only [size_junk]; go_size) | (simp only [World.size_alloc, size_junk, size_setRow]; omega) | omega))⟩
  | true =>
    have ok : okL b := (okB_iff b).1 hok
    simp only [Bool.true_and]
    go_enter Try.func12, Try.ntmps12
    go_wp2_with (first | ((with_reducible apply loadB (n := 16) (ty := 28) Try.underlying28); (focus with_unfolding_all exact rfl); (focus ((repeat' (first | (with_reducible assumption) | ((with_reducible refine heap_new ?_); (focus ((try simp only [World.size_alloc, size_junk, size_setRow, Array.size_append]) <;> omega))) | ((with_reducible refine heap_old ?_ ?_); (focus ((try simp only [World.size_alloc, size_junk, size_setRow, Array.size_append]) <;> omega))) | ((with_reducible refine heap_junk ?_ ?_); (focus ((try simp only [World.size_alloc, size_junk, size_setRow, Array.size_append]) <;> omega))) | ((with_reducible apply heap_setRow_same)) | ((with_reducible refine heap_setRow_other ?_ ?_); (focus ((try simp only [World.size_alloc, size_junk, size_setRow, Array.size_append]) <;> omega))))); done)); (focus rfl); (focus kernel_rfl); (focus (first | (with_reducible assumption) | (with_reducible rfl) | (simp only [slideB_length, putL_length, rowOut_length, lineB_length, madeB_length, *]; done)))) | (go_at_call 36; refine (IsBoard_list b hb _).mono ?_; rintro e w1 ⟨rfl, hb1⟩; obtain ⟨_, _, rfl⟩ := junk_of_below hb1; clear hb1) | (go_at_call 37; refine (implIsOverIn_any b hb ok _).mono ?_; rintro e w1 ⟨rfl, hb1⟩; obtain ⟨_, _, rfl⟩ := junk_of_below hb1; clear hb1))
    go_ret2
    exact ⟨rfl, by (repeat' (first | (with_reducible exact RowKit.Below.refl _ _) | (with_reducible assumption) | (with_reducible refine Below.drewN ?_ _) | (with_reducible refine below_junk0 ?_ ?_ _ _) | (with_reducible refine RowKit.Below.alloc ?_ ?_ _) | (with_reducible refine below_setRow0 ?_ ?_) | (with_reducible refine RowKit.Below.setCell ?_ ?_ _) | (with_reducible refine RowKit.Below.drew ?_) | go_size | (simp only [size_junk]; go_size) | (simp only [World.size_alloc, size_junk, size_setRow]; omega) | omega))⟩

set_option maxRecDepth 100000 in
set_option maxHeartbeats 4000000 in
theorem fnExactIsOver_walk (b : List Int) (hb : b.length = 16) (_wl : wfL b) (w : World) : Calls Try.prog 3 #[aggB b] w fun e w' => e = .returned (.bool true) ∧ RowKit.Below w.heap.size w w' := by
  cases hok : okB b <;> cases hov : overB b
  all_goals
    go_enter Try.func3, Try.ntmps3
    go_wp2_with (first | ((with_reducible apply loadB (n := 16) (ty := 25) Try.underlying25); (focus with_unfolding_all exact rfl); (focus ((repeat' (first | (with_reducible assumption) | ((with_reducible refine heap_new ?_); (focus ((try simp only [World.size_alloc, size_junk, size_setRow, Array.size_append]) <;> omega))) | ((with_reducible refine heap_old ?_ ?_); (focus ((try simp only [World.size_alloc, size_junk, size_setRow, Array.size_append]) <;> omega))) | ((with_reducible refine heap_junk ?_ ?_); (focus ((try simp only [World.size_alloc, size_junk, size_setRow, Array.size_append]) <;> omega))) | ((with_reducible apply heap_setRow_same)) | ((with_reducible refine heap_setRow_other ?_ ?_); (focus ((try simp only [World.size_alloc, size_junk, size_setRow, Array.size_append]) <;> omega))))); done)); (focus rfl); (focus kernel_rfl); (focus (first | (with_reducible assumption) | (with_reducible rfl) | (simp only [slideB_length, putL_length, rowOut_length, lineB_length, madeB_length, *]; done)))) | (go_at_call 11; refine (toBoard_any b hb _).mono ?_; rintro e w1 ⟨rfl, hb1⟩; obtain ⟨_, _, rfl⟩ := junk_of_below hb1; clear hb1) | (go_at_call 10; refine (specIsOver_any b hb _).mono ?_; rintro e w1 ⟨rfl, hb1⟩; obtain ⟨_, _, rfl⟩ := junk_of_below hb1; clear hb1) | (go_at_call 12; refine (implIsOver_any b hb _).mono ?_; rintro e w1 ⟨rfl, hb1⟩; obtain ⟨_, _, rfl⟩ := junk_of_below hb1; clear hb1))
    go_ret
    exact ⟨rfl, by (repeat' (first | (with_reducible exact RowKit.Below.refl _ _) | (with_reducible assumption) | (with_reducible refine Below.drewN ?_ _) | (with_reducible refine below_junk0 ?_ ?_ _ _) | (with_reducible refine RowKit.Below.alloc ?_ ?_ _) | (with_reducible refine below_setRow0 ?_ ?_) | (with_reducible refine RowKit.Below.setCell ?_ ?_ _) | (with_reducible refine RowKit.Below.drew ?_) | go_size | (simp only [size_junk]; go_size) | (simp only [World.size_alloc, size_junk, size_setRow]; omega) | omega))⟩
end Go.Proofs.Ytgkfhppmopmgjaa

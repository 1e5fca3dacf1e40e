/- Walks of single functions of the given Go program, printed by a program of mine; each theorem says what the function returns. -/
import Derived.Test.YtgkfhppmopmgjaaRows
import Derived.WalkKit
import Derived.WalkSpells
import Derived.WalkLawsBesides
import Derived.Handy
import Derived.Deep.QuietTactic
import Derived.BigQuiet
import Derived.Lib.Hide
import Derived.Test.YtgkfhppmopmgjaaHelps
import Derived.Deep.Cut
set_option linter.all false
namespace Go.Proofs.Ytgkfhppmopmgjaa
open Go.RowKit Pl Go.Lib Go.Shelf

set_option maxRecDepth 100000 in
set_option maxHeartbeats 4000000 in
theorem eqIntA4_same (x0 x1 x2 x3 : Int) (w : World) : Calls Try.prog 63 #[.agg #[.int .i64 x0, .int .i64 x1, .int .i64 x2, .int .i64 x3], .agg #[.int .i64 x0, .int .i64 x1, .int .i64 x2, .int .i64 x3]] w fun e w' => e = .returned (.bool true) ∧ RowKit.Below w.heap.size w w' := by
  go_enter Try.func63, Try.ntmps63
  go_wp2_with fail
  refine wp_loop_rounds 5 ?_
  iterate 4 (rw [rounds_succ]; go_wp2_with (go_quiet (fail)))
  rw [rounds_succ]
  go_wp2
  go_ret
  exact ⟨rfl, by (repeat' (first | (with_reducible exact RowKit.Below.refl _ _) | (with_reducible assumption) | (with_reducible refine Below.drewN ?_ _) | (with_reducible refine below_junk0 ?_ ?_ _ _) | (with_reducible refine RowKit.Below.alloc ?_ ?_ _) | (with_reducible refine below_setRow0 ?_ ?_) | (with_reducible refine RowKit.Below.setCell ?_ ?_ _) | (with_reducible refine RowKit.Below.drew ?_) | go_size | (simp only [size_junk]; go_size) | (simp only [World.size_alloc, size_junk, size_setRow]; omega) | omega))⟩

set_option maxRecDepth 100000 in
set_option maxHeartbeats 4000000 in
theorem eqIntA4A4_same (x0 x1 x2 x3 x4 x5 x6 x7 x8 x9 x10 x11 x12 x13 x14 x15 : Int) (w : World) : Calls Try.prog 40 #[.agg #[.int .i64 x0, .int .i64 x1, .int .i64 x2, .int .i64 x3, .int .i64 x4, .int .i64 x5, .int .i64 x6, .int .i64 x7, .int .i64 x8, .int .i64 x9, .int .i64 x10, .int .i64 x11, .int .i64 x12, .int .i64 x13, .int .i64 x14, .int .i64 x15], .agg #[.int .i64 x0, .int .i64 x1, .int .i64 x2, .int .i64 x3, .int .i64 x4, .int .i64 x5, .int .i64 x6, .int .i64 x7, .int .i64 x8, .int .i64 x9, .int .i64 x10, .int .i64 x11, .int .i64 x12, .int .i64 x13, .int .i64 x14, .int .i64 x15]] w fun e w' => e = .returned (.bool true) ∧ RowKit.Below w.heap.size w w' := by
  go_enter Try.func40, Try.ntmps40
  go_wp2_with fail
  refine wp_loop_rounds 5 ?_
  rw [rounds_succ]
  go_upto_region 4 with fail
  (refine wp_region_quiet_junk (by kernel_rfl) (by kernel_rfl) ?_; (repeat (first | ((with_reducible apply loadQm (ty := 22) (cs := [.int .i64 x0, .int .i64 x1, .int .i64 x2, .int .i64 x3]) Try.underlying22); (focus with_unfolding_all exact rfl); (focus ((rintro _ ⟨p, rfl⟩); ((repeat' (first | ((with_reducible refine heap_new ?_); (focus (first | (simp only [World.size_alloc, size_junk, size_setRow, Array.size_append]; done) | (simp only [World.size_alloc, size_junk, size_setRow, Array.size_append]; omega) | omega))) | ((with_reducible refine heap_old ?_ ?_); (focus (first | (simp only [World.size_alloc, size_junk, size_setRow, Array.size_append]; done) | (simp only [World.size_alloc, size_junk, size_setRow, Array.size_append]; omega) | omega))) | ((with_reducible refine heap_junk ?_ ?_); (focus (first | (simp only [World.size_alloc, size_junk, size_setRow, Array.size_append]; done) | (simp only [World.size_alloc, size_junk, size_setRow, Array.size_append]; omega) | omega)))))); done)); (focus (intro j v hj; rcases j with _ | _ | _ | _ | j <;> first | exact hj | simp at hj)); (focus rfl); (focus kernel_rfl)) | quiet_step ((with_reducible refine Calls.junk_to (eqIntA4_same _ _ _ _ _) (fun d os => ?_); (try simp only [junk_junk, Array.append_assoc]); with_reducible exact ⟨⟨d, _⟩, rfl⟩)))); refine wpQuiet_nil ?_; intro _ hw'; obtain ⟨⟨dq, osq⟩, hw''⟩ := hw'; subst hw'')
  go_wp2
  rw [rounds_succ]
  go_upto_region 4 with fail
  (refine wp_region_quiet_junk (by kernel_rfl) (by kernel_rfl) ?_; (repeat (first | ((with_reducible apply loadQm (ty := 22) (cs := [.int .i64 x4, .int .i64 x5, .int .i64 x6, .int .i64 x7]) Try.underlying22); (focus with_unfolding_all exact rfl); (focus ((rintro _ ⟨p, rfl⟩); ((repeat' (first | ((with_reducible refine heap_new ?_); (focus (first | (simp only [World.size_alloc, size_junk, size_setRow, Array.size_append]; done) | (simp only [World.size_alloc, size_junk, size_setRow, Array.size_append]; omega) | omega))) | ((with_reducible refine heap_old ?_ ?_); (focus (first | (simp only [World.size_alloc, size_junk, size_setRow, Array.size_append]; done) | (simp only [World.size_alloc, size_junk, size_setRow, Array.size_append]; omega) | omega))) | ((with_reducible refine heap_junk ?_ ?_); (focus (first | (simp only [World.size_alloc, size_junk, size_setRow, Array.size_append]; done) | (simp only [World.size_alloc, size_junk, size_setRow, Array.size_append]; omega) | omega)))))); done)); (focus (intro j v hj; rcases j with _ | _ | _ | _ | j <;> first | exact hj | simp at hj)); (focus rfl); (focus kernel_rfl)) | quiet_step ((with_reducible refine Calls.junk_to (eqIntA4_same _ _ _ _ _) (fun d os => ?_); (try simp only [junk_junk, Array.append_assoc]); with_reducible exact ⟨⟨d, _⟩, rfl⟩)))); refine wpQuiet_nil ?_; intro _ hw'; obtain ⟨⟨dq, osq⟩, hw''⟩ := hw'; subst hw'')
  go_wp2
  rw [rounds_succ]
  go_upto_region 4 with fail
  (refine wp_region_quiet_junk (by kernel_rfl) (by kernel_rfl) ?_; (repeat (first | ((with_reducible apply loadQm (ty := 22) (cs := [.int .i64 x8, .int .i64 x9, .int .i64 x10, .int .i64 x11]) Try.underlying22); (focus with_unfolding_all exact rfl); (focus ((rintro _ ⟨p, rfl⟩); ((repeat' (first | ((with_reducible refine heap_new ?_); (focus (first | (simp only [World.size_alloc, size_junk, size_setRow, Array.size_append]; done) | (simp only [World.size_alloc, size_junk, size_setRow, Array.size_append]; omega) | omega))) | ((with_reducible refine heap_old ?_ ?_); (focus (first | (simp only [World.size_alloc, size_junk, size_setRow, Array.size_append]; done) | (simp only [World.size_alloc, size_junk, size_setRow, Array.size_append]; omega) | omega))) | ((with_reducible refine heap_junk ?_ ?_); (focus (first | (simp only [World.size_alloc, size_junk, size_setRow, Array.size_append]; done) | (simp only [World.size_alloc, size_junk, size_setRow, Array.size_append]; omega) | omega)))))); done)); (focus (intro j v hj; rcases j with _ | _ | _ | _ | j <;> first | exact hj | simp at hj)); (focus rfl); (focus kernel_rfl)) | quiet_step ((with_reducible refine Calls.junk_to (eqIntA4_same _ _ _ _ _) (fun d os => ?_); (try simp only [junk_junk, Array.append_assoc]); with_reducible exact ⟨⟨d, _⟩, rfl⟩)))); refine wpQuiet_nil ?_; intro _ hw'; obtain ⟨⟨dq, osq⟩, hw''⟩ := hw'; subst hw'')
  go_wp2
  rw [rounds_succ]
  go_upto_region 4 with fail
  (refine wp_region_quiet_junk (by kernel_rfl) (by kernel_rfl) ?_; (repeat (first | ((with_reducible apply loadQm (ty := 22) (cs := [.int .i64 x12, .int .i64 x13, .int .i64 x14, .int .i64 x15]) Try.underlying22); (focus with_unfolding_all exact rfl); (focus ((rintro _ ⟨p, rfl⟩); ((repeat' (first | ((with_reducible refine heap_new ?_); (focus (first | (simp only [World.size_alloc, size_junk, size_setRow, Array.size_append]; done) | (simp only [World.size_alloc, size_junk, size_setRow, Array.size_append]; omega) | omega))) | ((with_reducible refine heap_old ?_ ?_); (focus (first | (simp only [World.size_alloc, size_junk, size_setRow, Array.size_append]; done) | (simp only [World.size_alloc, size_junk, size_setRow, Array.size_append]; omega) | omega))) | ((with_reducible refine heap_junk ?_ ?_); (focus (first | (simp only [World.size_alloc, size_junk, size_setRow, Array.size_append]; done) | (simp only [World.size_alloc, size_junk, size_setRow, Array.size_append]; omega) | omega)))))); done)); (focus (intro j v hj; rcases j with _ | _ | _ | _ | j <;> first | exact hj | simp at hj)); (focus rfl); (focus kernel_rfl)) | quiet_step ((with_reducible refine Calls.junk_to (eqIntA4_same _ _ _ _ _) (fun d os => ?_); (try simp only [junk_junk, Array.append_assoc]); with_reducible exact ⟨⟨d, _⟩, rfl⟩)))); refine wpQuiet_nil ?_; intro _ hw'; obtain ⟨⟨dq, osq⟩, hw''⟩ := hw'; subst hw'')
  go_wp2
  rw [rounds_succ]
  go_wp2
  go_ret
  exact ⟨rfl, by (repeat' (first | (with_reducible exact RowKit.Below.refl _ _) | (with_reducible assumption) | (with_reducible refine Below.drewN ?_ _) | (with_reducible refine below_junk0 ?_ ?_ _ _) | (with_reducible refine RowKit.Below.alloc ?_ ?_ _) | (with_reducible refine below_setRow0 ?_ ?_) | (with_reducible refine RowKit.Below.setCell ?_ ?_ _) | (with_reducible refine RowKit.Below.drew ?_) | go_size | (simp only [size_junk]; go_size) | (simp only [World.size_alloc, size_junk, size_setRow]; omega) | omega))⟩
theorem eqIntA4A4_list (b : List Int) (hb : b.length = 16) (w : World) : Calls Try.prog 40 #[aggB b, aggB b] w fun e w' => e = .returned (.bool true) ∧ RowKit.Below w.heap.size w w' := by
  obtain ⟨x0, x1, x2, x3, x4, x5, x6, x7, x8, x9, x10, x11, x12, x13, x14, x15, rfl⟩ := len16 b hb
  exact eqIntA4A4_same _ _ _ _ _ _ _ _ _ _ _ _ _ _ _ _ w

set_option maxRecDepth 100000 in
set_option maxHeartbeats 4000000 in
theorem eqBoard_same (b : List Int) (hb : b.length = 16) (w : World) : Calls Try.prog 15 #[aggB b, aggB b] w fun e w' => e = .returned (.bool true) ∧ RowKit.Below w.heap.size w w' := by
  go_enter Try.func15, Try.ntmps15
  go_wp2_with (first | ((with_reducible apply loadB (n := 16) (ty := 23) Try.underlying23); (focus with_unfolding_all exact rfl); (focus ((repeat' (first | (with_reducible assumption) | ((with_reducible refine heap_new ?_); (focus (first | (simp only [World.size_alloc, size_junk, size_setRow, Array.size_append]; done) | (simp only [World.size_alloc, size_junk, size_setRow, Array.size_append]; omega) | omega))) | ((with_reducible refine heap_old ?_ ?_); (focus (first | (simp only [World.size_alloc, size_junk, size_setRow, Array.size_append]; done) | (simp only [World.size_alloc, size_junk, size_setRow, Array.size_append]; omega) | omega))) | ((with_reducible refine heap_junk ?_ ?_); (focus (first | (simp only [World.size_alloc, size_junk, size_setRow, Array.size_append]; done) | (simp only [World.size_alloc, size_junk, size_setRow, Array.size_append]; omega) | omega))) | ((with_reducible apply heap_setRow_same)) | ((with_reducible refine heap_setRow_other ?_ ?_); (focus (first | (simp only [World.size_alloc, size_junk, size_setRow, Array.size_append]; done) | (simp only [World.size_alloc, size_junk, size_setRow, Array.size_append]; omega) | omega))))); done)); (focus rfl); (focus kernel_rfl); (focus (first | (with_reducible assumption) | (with_reducible rfl) | (simp only [slideB_length, putL_length, rowOut_length, lineB_length, madeB_length, *]; done)))) | (go_at_call 40; refine (eqIntA4A4_list b hb _).mono ?_; rintro e w1 ⟨rfl, hb1⟩; obtain ⟨_, _, rfl⟩ := junk_of_below hb1; clear hb1))
  go_ret
  exact ⟨rfl, by (repeat' (first | (with_reducible exact RowKit.Below.refl _ _) | (with_reducible assumption) | (with_reducible refine Below.drewN ?_ _) | (with_reducible refine below_junk0 ?_ ?_ _ _) | (with_reducible refine RowKit.Below.alloc ?_ ?_ _) | (with_reducible refine below_setRow0 ?_ ?_) | (with_reducible refine RowKit.Below.setCell ?_ ?_ _) | (with_reducible refine RowKit.Below.drew ?_) | go_size | (simp only [size_junk]; go_size) | (simp only [World.size_alloc, size_junk, size_setRow]; omega) | omega))⟩
end Go.Proofs.Ytgkfhppmopmgjaa

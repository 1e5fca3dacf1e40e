/- Walks of single functions of the given Go program, printed by a program of mine; each theorem says what the function returns. -/
import Derived.Test.YtgkfhppmopmgjaaRows
import Derived.WalkKit
import Derived.WalkSpells
import Derived.WalkLawsBesides
import Derived.Handy
import Derived.Deep.QuietTactic
import Derived.BigQuiet
import Derived.Lib.Hide
import Derived.Test.YtgkfhppmopmgjaaPure2
import Derived.Test.YtgkfhppmopmgjaaLines
import Derived.Deep.Cut
set_option linter.all false
namespace Go.Proofs.Ytgkfhppmopmgjaa
open Go.RowKit Pl Go.Lib Go.Shelf

set_option maxRecDepth 100000 in
set_option maxHeartbeats 8000000 in
theorem l2Before_lit (x0 x1 x2 x3 x4 x5 x6 x7 x8 x9 x10 x11 x12 x13 x14 x15 y0 y1 y2 y3 y4 y5 y6 y7 y8 y9 y10 y11 y12 y13 y14 y15 : Int) (w : World) : Calls Try.prog 60 #[.agg #[.int .i64 x0, .int .i64 x1, .int .i64 x2, .int .i64 x3, .int .i64 x4, .int .i64 x5, .int .i64 x6, .int .i64 x7, .int .i64 x8, .int .i64 x9, .int .i64 x10, .int .i64 x11, .int .i64 x12, .int .i64 x13, .int .i64 x14, .int .i64 x15], .agg #[.int .i64 y0, .int .i64 y1, .int .i64 y2, .int .i64 y3, .int .i64 y4, .int .i64 y5, .int .i64 y6, .int .i64 y7, .int .i64 y8, .int .i64 y9, .int .i64 y10, .int .i64 y11, .int .i64 y12, .int .i64 y13, .int .i64 y14, .int .i64 y15]] w fun e w' => e = .returned (.bool (ltL [x0, x1, x2, x3, x4, x5, x6, x7, x8, x9, x10, x11, x12, x13, x14, x15] [y0, y1, y2, y3, y4, y5, y6, y7, y8, y9, y10, y11, y12, y13, y14, y15])) ∧ RowKit.Below w.heap.size w w' := by
  go_enter Try.func60, Try.ntmps60
  go_wp2_with fail
  refine wp_loop_rounds 5 ?_
  rw [rounds_succ]; go_wp2
  refine wp_loop_rounds 5 ?_
  rw [rounds_succ]
  by_cases h0 : x0 = y0
  rotate_left
  · have hq1 : (x0 == y0) = false := by simpa using h0
    have hq2 : (x0 != y0) = true := by simp only [bne, hq1]; rfl
    have HQ := Lib.hid h0; clear h0
    go_wp2_with (go_quiet (fail))
    go_ret
    refine ⟨?_, by (repeat' (first | (with_reducible exact RowKit.Below.refl _ _) | (with_reducible assumption) | (with_reducible refine Below.drewN ?_ _) | (with_reducible refine below_junk0 ?_ ?_ _ _) | (with_reducible refine RowKit.Below.alloc ?_ ?_ _) | (with_reducible refine below_setRow0 ?_ ?_) | (with_reducible refine RowKit.Below.setCell ?_ ?_ _) | (with_reducible refine RowKit.Below.drew ?_) | go_size | (simp only [size_junk]; go_size) | (simp only [World.size_alloc, size_junk, size_setRow]; omega) | omega))⟩
    have hh := HQ.out
    simp only [ltL, if_true, if_neg hh]
    rfl
  subst h0
  go_wp2_with (go_quiet (fail))
  rw [rounds_succ]
  by_cases h1 : x1 = y1
  rotate_left
  · have hq1 : (x1 == y1) = false := by simpa using h1
    have hq2 : (x1 != y1) = true := by simp only [bne, hq1]; rfl
    have HQ := Lib.hid h1; clear h1
    go_wp2_with (go_quiet (fail))
    go_ret
    refine ⟨?_, by (repeat' (first | (with_reducible exact RowKit.Below.refl _ _) | (with_reducible assumption) | (with_reducible refine Below.drewN ?_ _) | (with_reducible refine below_junk0 ?_ ?_ _ _) | (with_reducible refine RowKit.Below.alloc ?_ ?_ _) | (with_reducible refine below_setRow0 ?_ ?_) | (with_reducible refine RowKit.Below.setCell ?_ ?_ _) | (with_reducible refine RowKit.Below.drew ?_) | go_size | (simp only [size_junk]; go_size) | (simp only [World.size_alloc, size_junk, size_setRow]; omega) | omega))⟩
    have hh := HQ.out
    simp only [ltL, if_true, if_neg hh]
    rfl
  subst h1
  go_wp2_with (go_quiet (fail))
  rw [rounds_succ]
  by_cases h2 : x2 = y2
  rotate_left
  · have hq1 : (x2 == y2) = false := by simpa using h2
    have hq2 : (x2 != y2) = true := by simp only [bne, hq1]; rfl
    have HQ := Lib.hid h2; clear h2
    go_wp2_with (go_quiet (fail))
    go_ret
    refine ⟨?_, by (repeat' (first | (with_reducible exact RowKit.Below.refl _ _) | (with_reducible assumption) | (with_reducible refine Below.drewN ?_ _) | (with_reducible refine below_junk0 ?_ ?_ _ _) | (with_reducible refine RowKit.Below.alloc ?_ ?_ _) | (with_reducible refine below_setRow0 ?_ ?_) | (with_reducible refine RowKit.Below.setCell ?_ ?_ _) | (with_reducible refine RowKit.Below.drew ?_) | go_size | (simp only [size_junk]; go_size) | (simp only [World.size_alloc, size_junk, size_setRow]; omega) | omega))⟩
    have hh := HQ.out
    simp only [ltL, if_true, if_neg hh]
    rfl
  subst h2
  go_wp2_with (go_quiet (fail))
  rw [rounds_succ]
  by_cases h3 : x3 = y3
  rotate_left
  · have hq1 : (x3 == y3) = false := by simpa using h3
    have hq2 : (x3 != y3) = true := by simp only [bne, hq1]; rfl
    have HQ := Lib.hid h3; clear h3
    go_wp2_with (go_quiet (fail))
    go_ret
    refine ⟨?_, by (repeat' (first | (with_reducible exact RowKit.Below.refl _ _) | (with_reducible assumption) | (with_reducible refine Below.drewN ?_ _) | (with_reducible refine below_junk0 ?_ ?_ _ _) | (with_reducible refine RowKit.Below.alloc ?_ ?_ _) | (with_reducible refine below_setRow0 ?_ ?_) | (with_reducible refine RowKit.Below.setCell ?_ ?_ _) | (with_reducible refine RowKit.Below.drew ?_) | go_size | (simp only [size_junk]; go_size) | (simp only [World.size_alloc, size_junk, size_setRow]; omega) | omega))⟩
    have hh := HQ.out
    simp only [ltL, if_true, if_neg hh]
    rfl
  subst h3
  go_wp2_with (go_quiet (fail))
  rw [rounds_succ]; go_wp2
  rw [rounds_succ]; go_wp2
  refine wp_loop_rounds 5 ?_
  rw [rounds_succ]
  by_cases h4 : x4 = y4
  rotate_left
  · have hq1 : (x4 == y4) = false := by simpa using h4
    have hq2 : (x4 != y4) = true := by simp only [bne, hq1]; rfl
    have HQ := Lib.hid h4; clear h4
    go_wp2_with (go_quiet (fail))
    go_ret
    refine ⟨?_, by (repeat' (first | (with_reducible exact RowKit.Below.refl _ _) | (with_reducible assumption) | (with_reducible refine Below.drewN ?_ _) | (with_reducible refine below_junk0 ?_ ?_ _ _) | (with_reducible refine RowKit.Below.alloc ?_ ?_ _) | (with_reducible refine below_setRow0 ?_ ?_) | (with_reducible refine RowKit.Below.setCell ?_ ?_ _) | (with_reducible refine RowKit.Below.drew ?_) | go_size | (simp only [size_junk]; go_size) | (simp only [World.size_alloc, size_junk, size_setRow]; omega) | omega))⟩
    have hh := HQ.out
    simp only [ltL, if_true, if_neg hh]
    rfl
  subst h4
  go_wp2_with (go_quiet (fail))
  rw [rounds_succ]
  by_cases h5 : x5 = y5
  rotate_left
  · have hq1 : (x5 == y5) = false := by simpa using h5
    have hq2 : (x5 != y5) = true := by simp only [bne, hq1]; rfl
    have HQ := Lib.hid h5; clear h5
    go_wp2_with (go_quiet (fail))
    go_ret
    refine ⟨?_, by (repeat' (first | (with_reducible exact RowKit.Below.refl _ _) | (with_reducible assumption) | (with_reducible refine Below.drewN ?_ _) | (with_reducible refine below_junk0 ?_ ?_ _ _) | (with_reducible refine RowKit.Below.alloc ?_ ?_ _) | (with_reducible refine below_setRow0 ?_ ?_) | (with_reducible refine RowKit.Below.setCell ?_ ?_ _) | (with_reducible refine RowKit.Below.drew ?_) | go_size | (simp only [size_junk]; go_size) | (simp only [World.size_alloc, size_junk, size_setRow]; omega) | omega))⟩
    have hh := HQ.out
    simp only [ltL, if_true, if_neg hh]
    rfl
  subst h5
  go_wp2_with (go_quiet (fail))
  rw [rounds_succ]
  by_cases h6 : x6 = y6
  rotate_left
  · have hq1 : (x6 == y6) = false := by simpa using h6
    have hq2 : (x6 != y6) = true := by simp only [bne, hq1]; rfl
    have HQ := Lib.hid h6; clear h6
    go_wp2_with (go_quiet (fail))
    go_ret
    refine ⟨?_, by (repeat' (first | (with_reducible exact RowKit.Below.refl _ _) | (with_reducible assumption) | (with_reducible refine Below.drewN ?_ _) | (with_reducible refine below_junk0 ?_ ?_ _ _) | (with_reducible refine RowKit.Below.alloc ?_ ?_ _) | (with_reducible refine below_setRow0 ?_ ?_) | (with_reducible refine RowKit.Below.setCell ?_ ?_ _) | (with_reducible refine RowKit.Below.drew ?_) | go_size | (simp only [size_junk]; go_size) | (simp only [World.size_alloc, size_junk, size_setRow]; omega) | omega))⟩
    have hh := HQ.out
    simp only [ltL, if_true, if_neg hh]
    rfl
  subst h6
  go_wp2_with (go_quiet (fail))
  rw [rounds_succ]
  by_cases h7 : x7 = y7
  rotate_left
  · have hq1 : (x7 == y7) = false := by simpa using h7
    have hq2 : (x7 != y7) = true := by simp only [bne, hq1]; rfl
    have HQ := Lib.hid h7; clear h7
    go_wp2_with (go_quiet (fail))
    go_ret
    refine ⟨?_, by (repeat' (first | (with_reducible exact RowKit.Below.refl _ _) | (with_reducible assumption) | (with_reducible refine Below.drewN ?_ _) | (with_reducible refine below_junk0 ?_ ?_ _ _) | (with_reducible refine RowKit.Below.alloc ?_ ?_ _) | (with_reducible refine below_setRow0 ?_ ?_) | (with_reducible refine RowKit.Below.setCell ?_ ?_ _) | (with_reducible refine RowKit.Below.drew ?_) | go_size | (simp only [size_junk]; go_size) | (simp only [World.size_alloc, size_junk, size_setRow]; omega) | omega))⟩
    have hh := HQ.out
    simp only [ltL, if_true, if_neg hh]
    rfl
  subst h7
  go_wp2_with (go_quiet (fail))
  rw [rounds_succ]; go_wp2
  rw [rounds_succ]; go_wp2
  refine wp_loop_rounds 5 ?_
  rw [rounds_succ]
  by_cases h8 : x8 = y8
  rotate_left
  · have hq1 : (x8 == y8) = false := by simpa using h8
    have hq2 : (x8 != y8) = true := by simp only [bne, hq1]; rfl
    have HQ := Lib.hid h8; clear h8
    go_wp2_with (go_quiet (fail))
    go_ret
    refine ⟨?_, by (repeat' (first | (with_reducible exact RowKit.Below.refl _ _) | (with_reducible assumption) | (with_reducible refine Below.drewN ?_ _) | (with_reducible refine below_junk0 ?_ ?_ _ _) | (with_reducible refine RowKit.Below.alloc ?_ ?_ _) | (with_reducible refine below_setRow0 ?_ ?_) | (with_reducible refine RowKit.Below.setCell ?_ ?_ _) | (with_reducible refine RowKit.Below.drew ?_) | go_size | (simp only [size_junk]; go_size) | (simp only [World.size_alloc, size_junk, size_setRow]; omega) | omega))⟩
    have hh := HQ.out
    simp only [ltL, if_true, if_neg hh]
    rfl
  subst h8
  go_wp2_with (go_quiet (fail))
  rw [rounds_succ]
  by_cases h9 : x9 = y9
  rotate_left
  · have hq1 : (x9 == y9) = false := by simpa using h9
    have hq2 : (x9 != y9) = true := by simp only [bne, hq1]; rfl
    have HQ := Lib.hid h9; clear h9
    go_wp2_with (go_quiet (fail))
    go_ret
    refine ⟨?_, by (repeat' (first | (with_reducible exact RowKit.Below.refl _ _) | (with_reducible assumption) | (with_reducible refine Below.drewN ?_ _) | (with_reducible refine below_junk0 ?_ ?_ _ _) | (with_reducible refine RowKit.Below.alloc ?_ ?_ _) | (with_reducible refine below_setRow0 ?_ ?_) | (with_reducible refine RowKit.Below.setCell ?_ ?_ _) | (with_reducible refine RowKit.Below.drew ?_) | go_size | (simp only [size_junk]; go_size) | (simp only [World.size_alloc, size_junk, size_setRow]; omega) | omega))⟩
    have hh := HQ.out
    simp only [ltL, if_true, if_neg hh]
    rfl
  subst h9
  go_wp2_with (go_quiet (fail))
  rw [rounds_succ]
  by_cases h10 : x10 = y10
  rotate_left
  · have hq1 : (x10 == y10) = false := by simpa using h10
    have hq2 : (x10 != y10) = true := by simp only [bne, hq1]; rfl
    have HQ := Lib.hid h10; clear h10
    go_wp2_with (go_quiet (fail))
    go_ret
    refine ⟨?_, by (repeat' (first | (with_reducible exact RowKit.Below.refl _ _) | (with_reducible assumption) | (with_reducible refine Below.drewN ?_ _) | (with_reducible refine below_junk0 ?_ ?_ _ _) | (with_reducible refine RowKit.Below.alloc ?_ ?_ _) | (with_reducible refine below_setRow0 ?_ ?_) | (with_reducible refine RowKit.Below.setCell ?_ ?_ _) | (with_reducible refine RowKit.Below.drew ?_) | go_size | (simp only [size_junk]; go_size) | (simp only [World.size_alloc, size_junk, size_setRow]; omega) | omega))⟩
    have hh := HQ.out
    simp only [ltL, if_true, if_neg hh]
    rfl
  subst h10
  go_wp2_with (go_quiet (fail))
  rw [rounds_succ]
  by_cases h11 : x11 = y11
  rotate_left
  · have hq1 : (x11 == y11) = false := by simpa using h11
    have hq2 : (x11 != y11) = true := by simp only [bne, hq1]; rfl
    have HQ := Lib.hid h11; clear h11
    go_wp2_with (go_quiet (fail))
    go_ret
    refine ⟨?_, by (repeat' (first | (with_reducible exact RowKit.Below.refl _ _) | (with_reducible assumption) | (with_reducible refine Below.drewN ?_ _) | (with_reducible refine below_junk0 ?_ ?_ _ _) | (with_reducible refine RowKit.Below.alloc ?_ ?_ _) | (with_reducible refine below_setRow0 ?_ ?_) | (with_reducible refine RowKit.Below.setCell ?_ ?_ _) | (with_reducible refine RowKit.Below.drew ?_) | go_size | (simp only [size_junk]; go_size) | (simp only [World.size_alloc, size_junk, size_setRow]; omega) | omega))⟩
    have hh := HQ.out
    simp only [ltL, if_true, if_neg hh]
    rfl
  subst h11
  go_wp2_with (go_quiet (fail))
  rw [rounds_succ]; go_wp2
  rw [rounds_succ]; go_wp2
  refine wp_loop_rounds 5 ?_
  rw [rounds_succ]
  by_cases h12 : x12 = y12
  rotate_left
  · have hq1 : (x12 == y12) = false := by simpa using h12
    have hq2 : (x12 != y12) = true := by simp only [bne, hq1]; rfl
    have HQ := Lib.hid h12; clear h12
    go_wp2_with (go_quiet (fail))
    go_ret
    refine ⟨?_, by (repeat' (first | (with_reducible exact RowKit.Below.refl _ _) | (with_reducible assumption) | (with_reducible refine Below.drewN ?_ _) | (with_reducible refine below_junk0 ?_ ?_ _ _) | (with_reducible refine RowKit.Below.alloc ?_ ?_ _) | (with_reducible refine below_setRow0 ?_ ?_) | (with_reducible refine RowKit.Below.setCell ?_ ?_ _) | (with_reducible refine RowKit.Below.drew ?_) | go_size | (simp only [size_junk]; go_size) | (simp only [World.size_alloc, size_junk, size_setRow]; omega) | omega))⟩
    have hh := HQ.out
    simp only [ltL, if_true, if_neg hh]
    rfl
  subst h12
  go_wp2_with (go_quiet (fail))
  rw [rounds_succ]
  by_cases h13 : x13 = y13
  rotate_left
  · have hq1 : (x13 == y13) = false := by simpa using h13
    have hq2 : (x13 != y13) = true := by simp only [bne, hq1]; rfl
    have HQ := Lib.hid h13; clear h13
    go_wp2_with (go_quiet (fail))
    go_ret
    refine ⟨?_, by (repeat' (first | (with_reducible exact RowKit.Below.refl _ _) | (with_reducible assumption) | (with_reducible refine Below.drewN ?_ _) | (with_reducible refine below_junk0 ?_ ?_ _ _) | (with_reducible refine RowKit.Below.alloc ?_ ?_ _) | (with_reducible refine below_setRow0 ?_ ?_) | (with_reducible refine RowKit.Below.setCell ?_ ?_ _) | (with_reducible refine RowKit.Below.drew ?_) | go_size | (simp only [size_junk]; go_size) | (simp only [World.size_alloc, size_junk, size_setRow]; omega) | omega))⟩
    have hh := HQ.out
    simp only [ltL, if_true, if_neg hh]
    rfl
  subst h13
  go_wp2_with (go_quiet (fail))
  rw [rounds_succ]
  by_cases h14 : x14 = y14
  rotate_left
  · have hq1 : (x14 == y14) = false := by simpa using h14
    have hq2 : (x14 != y14) = true := by simp only [bne, hq1]; rfl
    have HQ := Lib.hid h14; clear h14
    go_wp2_with (go_quiet (fail))
    go_ret
    refine ⟨?_, by (repeat' (first | (with_reducible exact RowKit.Below.refl _ _) | (with_reducible assumption) | (with_reducible refine Below.drewN ?_ _) | (with_reducible refine below_junk0 ?_ ?_ _ _) | (with_reducible refine RowKit.Below.alloc ?_ ?_ _) | (with_reducible refine below_setRow0 ?_ ?_) | (with_reducible refine RowKit.Below.setCell ?_ ?_ _) | (with_reducible refine RowKit.Below.drew ?_) | go_size | (simp only [size_junk]; go_size) | (simp only [World.size_alloc, size_junk, size_setRow]; omega) | omega))⟩
    have hh := HQ.out
    simp only [ltL, if_true, if_neg hh]
    rfl
  subst h14
  go_wp2_with (go_quiet (fail))
  rw [rounds_succ]
  by_cases h15 : x15 = y15
  rotate_left
  · have hq1 : (x15 == y15) = false := by simpa using h15
    have hq2 : (x15 != y15) = true := by simp only [bne, hq1]; rfl
    have HQ := Lib.hid h15; clear h15
    go_wp2_with (go_quiet (fail))
    go_ret
    refine ⟨?_, by (repeat' (first | (with_reducible exact RowKit.Below.refl _ _) | (with_reducible assumption) | (with_reducible refine Below.drewN ?_ _) | (with_reducible refine below_junk0 ?_ ?_ _ _) | (with_reducible refine RowKit.Below.alloc ?_ ?_ _) | (with_reducible refine below_setRow0 ?_ ?_) | (with_reducible refine RowKit.Below.setCell ?_ ?_ _) | (with_reducible refine RowKit.Below.drew ?_) | go_size | (simp only [size_junk]; go_size) | (simp only [World.size_alloc, size_junk, size_setRow]; omega) | omega))⟩
    have hh := HQ.out
    simp only [ltL, if_true, if_neg hh]
    rfl
  subst h15
  go_wp2_with (go_quiet (fail))
  rw [rounds_succ]; go_wp2
  rw [rounds_succ]; go_wp2
  go_ret
  refine ⟨?_, by (repeat' (first | (with_reducible exact RowKit.Below.refl _ _) | (with_reducible assumption) | (with_reducible refine Below.drewN ?_ _) | (with_reducible refine below_junk0 ?_ ?_ _ _) | (with_reducible refine RowKit.Below.alloc ?_ ?_ _) | (with_reducible refine below_setRow0 ?_ ?_) | (with_reducible refine RowKit.Below.setCell ?_ ?_ _) | (with_reducible refine RowKit.Below.drew ?_) | go_size | (simp only [size_junk]; go_size) | (simp only [World.size_alloc, size_junk, size_setRow]; omega) | omega))⟩
  simp only [ltL, if_true]
  rfl
theorem l2Before_any (a b : List Int) (ha : a.length = 16) (hb : b.length = 16) (w : World) : Calls Try.prog 60 #[aggB a, aggB b] w fun e w' => e = .returned (.bool (ltL a b)) ∧ RowKit.Below w.heap.size w w' := by
  obtain ⟨x0, x1, x2, x3, x4, x5, x6, x7, x8, x9, x10, x11, x12, x13, x14, x15, rfl⟩ := len16 a ha
  obtain ⟨y0, y1, y2, y3, y4, y5, y6, y7, y8, y9, y10, y11, y12, y13, y14, y15, rfl⟩ := len16 b hb
  exact l2Before_lit _ _ _ _ _ _ _ _ _ _ _ _ _ _ _ _ _ _ _ _ _ _ _ _ _ _ _ _ _ _ _ _ w
end Go.Proofs.Ytgkfhppmopmgjaa

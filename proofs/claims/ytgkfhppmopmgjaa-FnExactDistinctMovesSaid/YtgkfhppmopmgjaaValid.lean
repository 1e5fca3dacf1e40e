/- Walks of single functions of the given Go program, printed by a program of mine; each theorem says what the function returns. -/
import Derived.Test.YtgkfhppmopmgjaaRows
import Derived.WalkKit
import Derived.WalkSpells
import Derived.WalkLawsBesides
import Derived.Handy
import Derived.Deep.QuietTactic
import Derived.BigQuiet
import Derived.Lib.Hide
import Derived.Test.YtgkfhppmopmgjaaBase
set_option linter.all false
namespace Go.Proofs.Ytgkfhppmopmgjaa
open Go.RowKit Pl

theorem inB_iff (x a b : Int) : inB x a b = true ↔ a ≤ x ∧ x ≤ b := by simp [inB]

theorem l1In_any (x a b : Int) (w : World) : Calls Try.prog 45 #[.int .i64 x, .int .i64 a, .int .i64 b] w fun e w' => e = .returned (.bool (inB x a b)) ∧ w = w' := by
  by_cases h : a ≤ x <;> by_cases h2 : x ≤ b
  all_goals
    go_enter Try.func45, Try.ntmps45
    go_wp2
    go_ret
    exact ⟨by simp [inB, h, h2], rfl⟩

theorem in_any (x a b : Int) (w : World) : Calls Try.prog 48 #[.int .i64 x, .int .i64 a, .int .i64 b] w fun e w' => e = .returned (.bool (inB x a b)) ∧ w = w' := by
  by_cases h : a ≤ x <;> by_cases h2 : x ≤ b
  all_goals
    go_enter Try.func48, Try.ntmps48
    go_wp2
    go_ret
    exact ⟨by simp [inB, h, h2], rfl⟩

theorem l2Side_any (x : Int) (w : World) : Calls Try.prog 64 #[.int .i64 x] w fun e w' => e = .returned (.bool (inB x 0 3)) ∧ w = w' := by
  go_enter Try.func64, Try.ntmps64
  go_wp2_with (go_at_call 45; refine (l1In_any _ _ _ _).mono ?_; rintro e w' ⟨rfl, rfl⟩)
  go_ret
  exact ⟨rfl, rfl⟩

theorem isDirection_any (x : Int) (w : World) : Calls Try.prog 67 #[.int .i64 x] w fun e w' => e = .returned (.bool (inB x 0 3)) ∧ w = w' := by
  go_enter Try.func67, Try.ntmps67
  go_wp2_with (go_at_call 48; refine (in_any _ _ _ _).mono ?_; rintro e w' ⟨rfl, rfl⟩)
  go_ret
  exact ⟨rfl, rfl⟩

set_option maxHeartbeats 4000000 in
theorem l2Board_any (x0 x1 x2 x3 x4 x5 x6 x7 x8 x9 x10 x11 x12 x13 x14 x15 : Int) (w : World) : Calls Try.prog 33 #[.agg #[.int .i64 x0, .int .i64 x1, .int .i64 x2, .int .i64 x3, .int .i64 x4, .int .i64 x5, .int .i64 x6, .int .i64 x7, .int .i64 x8, .int .i64 x9, .int .i64 x10, .int .i64 x11, .int .i64 x12, .int .i64 x13, .int .i64 x14, .int .i64 x15]] w fun e w' => e = .returned (.bool (okB [x0, x1, x2, x3, x4, x5, x6, x7, x8, x9, x10, x11, x12, x13, x14, x15])) ∧ Below w.heap.size w w' := by
  go_enter Try.func33, Try.ntmps33
  go_wp2
  repeat any_goals (first | (rw [rounds_succ]; go_wp2_with (go_at_call 45; refine (l1In_any _ _ _ _).mono ?_; rintro e w' ⟨rfl, rfl⟩)) | (refine wp_loop_rounds 5 ?_))
  all_goals (go_ret; exact ⟨by (simp only [Bool.not_eq_eq_eq_not, Bool.not_true, Bool.not_false] at *; simp [okB, *]), (Below.refl _ _).alloc (Nat.le_refl _) _⟩)

set_option maxHeartbeats 4000000 in
theorem IsRow_any (x0 x1 x2 x3 : Int) (w : World) : Calls Try.prog 58 #[.agg #[.int .i64 x0, .int .i64 x1, .int .i64 x2, .int .i64 x3]] w fun e w' => e = .returned (.bool (okB [x0, x1, x2, x3])) ∧ Below w.heap.size w w' := by
  go_enter Try.func58, Try.ntmps58
  go_wp2_with (first | (go_at_call 48; refine (in_any _ _ _ _).mono ?_; rintro e w' ⟨rfl, rfl⟩) | go_in)
  repeat any_goals (first | (rw [rounds_succ]; go_wp2_with (first | (go_at_call 48; refine (in_any _ _ _ _).mono ?_; rintro e w' ⟨rfl, rfl⟩) | go_in)) | (refine wp_loop_rounds 5 ?_))
  all_goals (go_ret; exact ⟨by (simp only [Bool.not_eq_eq_eq_not, Bool.not_true, Bool.not_false] at *; simp [okB, *]), by go_grown⟩)

set_option maxHeartbeats 4000000 in
theorem IsRowNot_any (x0 x1 x2 x3 : Int) (w : World) : Calls Try.prog 57 #[.agg #[.int .i64 x0, .int .i64 x1, .int .i64 x2, .int .i64 x3]] w fun e w' => e = .returned (.bool (!okB [x0, x1, x2, x3])) ∧ Below w.heap.size w w' := by
  go_enter Try.func57, Try.ntmps57
  go_wp2_with (first | (go_at_call 58; refine (IsRow_any _ _ _ _ _).mono ?_; rintro e w1 ⟨rfl, hb1⟩) | go_in)
  go_ret
  exact ⟨rfl, ((Below.refl _ _).alloc (Nat.le_refl _) _).trans (hb1.mono (by simp))⟩

set_option maxHeartbeats 4000000 in
theorem IsBoard_any (x0 x1 x2 x3 x4 x5 x6 x7 x8 x9 x10 x11 x12 x13 x14 x15 : Int) (w : World) : Calls Try.prog 36 #[.agg #[.int .i64 x0, .int .i64 x1, .int .i64 x2, .int .i64 x3, .int .i64 x4, .int .i64 x5, .int .i64 x6, .int .i64 x7, .int .i64 x8, .int .i64 x9, .int .i64 x10, .int .i64 x11, .int .i64 x12, .int .i64 x13, .int .i64 x14, .int .i64 x15]] w fun e w' => e = .returned (.bool (okB [x0, x1, x2, x3, x4, x5, x6, x7, x8, x9, x10, x11, x12, x13, x14, x15])) ∧ Below w.heap.size w w' := by
  go_enter Try.func36, Try.ntmps36
  go_wp2_with (first | (go_at_call 57; refine (IsRowNot_any _ _ _ _ _).mono ?_; rintro e w1 ⟨rfl, hb1⟩; (first | (have hb2 := Below.next hb hb1; clear hc hf hb hb1; have hb := hb2; clear hb2; obtain ⟨hc, hf⟩ := bcell hb) | (have hb := hb1; clear hb1; obtain ⟨hc, hf⟩ := bcell hb))) | go_in)
  repeat any_goals (first | (rw [rounds_succ]; go_wp2_with (first | (go_at_call 57; refine (IsRowNot_any _ _ _ _ _).mono ?_; rintro e w1 ⟨rfl, hb1⟩; (first | (have hb2 := Below.next hb hb1; clear hc hf hb hb1; have hb := hb2; clear hb2; obtain ⟨hc, hf⟩ := bcell hb) | (have hb := hb1; clear hb1; obtain ⟨hc, hf⟩ := bcell hb))) | go_in)) | (refine wp_loop_rounds 5 ?_))
  all_goals (clear hc hf; go_ret; refine ⟨?_, Below.from0 (by go_grown) (by go_size) hb⟩; clear hb; simp only [Bool.not_eq_eq_eq_not, Bool.not_true, Bool.not_false] at *; simp_all [okB])
end Go.Proofs.Ytgkfhppmopmgjaa
